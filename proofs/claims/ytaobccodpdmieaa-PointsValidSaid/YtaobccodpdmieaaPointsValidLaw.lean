/- bodkin: the law PointsValid, from its run to its statement: for every input it returns true and its arguments read as before. No conditions. -/
import Derived.Test.YtaobccodpdmieaaRows
import Derived.WalkKit
import Derived.JoinedCond
import Derived.Carry
import Derived.SizedLaws
import Derived.Test.YtaobccodpdmieaaMPointsValidLaw3
/- Points: paths, printed by a program of mine. -/
set_option maxRecDepth 100000
set_option linter.unusedSimpArgs false
set_option linter.unusedVariables false
namespace Go.Proofs.Ytaobccodpdmieaa.Points
open Go Pv G
set_option maxHeartbeats 4000000 in
theorem rmRoundE : rmRoundE_T := by
  intro rows M i hs hr hi hM hM2
  have h0 : (decide ((↑i : Int) < (↑(List.length rows) : Int))) = true := by (((try simp only [Bool.not_eq_true', Bool.not_eq_false', Bool.and_eq_true, Bool.and_eq_false_iff, decide_eq_true_eq, decide_eq_false_iff_not, beq_iff_eq, beq_eq_false_iff_ne, bne_iff_ne, bne_eq_false_iff_eq, ne_eq, not_and, Int.toNat_natCast] at *); (try simp only [Row.cells, Row.wrapped, Row.end_, Cell.kind, Cell.at] at *); (try simp (disch := omega) only [wrapId, toNatAdd, toNatSucc, isAt, reduceCtorEq, or_false, and_true, Bool.and_true, Bool.and_eq_true, Bool.and_eq_false_iff, beq_iff_eq, beq_eq_false_iff_ne, ne_eq, Int.toNat_natCast] at *)) <;> first | omega | assumption)
  have h1 : ((↑i : Int) == (IntKind.wrap IntKind.i64 ((↑(List.length rows) : Int) - (1 : Int)))) = true := by (((try simp only [Bool.not_eq_true', Bool.not_eq_false', Bool.and_eq_true, Bool.and_eq_false_iff, decide_eq_true_eq, decide_eq_false_iff_not, beq_iff_eq, beq_eq_false_iff_ne, bne_iff_ne, bne_eq_false_iff_eq, ne_eq, not_and, Int.toNat_natCast] at *); (try simp only [Row.cells, Row.wrapped, Row.end_, Cell.kind, Cell.at] at *); (try simp (disch := omega) only [wrapId, toNatAdd, toNatSucc, isAt, reduceCtorEq, or_false, and_true, Bool.and_true, Bool.and_eq_true, Bool.and_eq_false_iff, beq_iff_eq, beq_eq_false_iff_ne, ne_eq, Int.toNat_natCast] at *)) <;> first | omega | assumption)
  exact (pC (st' := { s := [((nat_lit 0), (V.d (D.sl (List.flatMap (Ty.enc rowT) rows) (List.length rows)))), ((nat_lit 3), (V.tail (nat_lit 51) (List.flatMap (Ty.enc markT) ((rowMarks rows M i) ++ [((↑i : Int), (↑(List.length (Prod.fst (Ty.nth rowT rows i))) : Int), (0 : Int), (Prod.fst (Prod.snd (Prod.snd (Ty.nth rowT rows i)))), ())])) (List.length ((rowMarks rows M i) ++ [((↑i : Int), (↑(List.length (Prod.fst (Ty.nth rowT rows i))) : Int), (0 : Int), (Prod.fst (Prod.snd (Prod.snd (Ty.nth rowT rows i)))), ())])))), ((nat_lit 10), (V.d (D.sl (List.flatMap (Ty.enc rowT) rows) (List.length rows)))), ((nat_lit 11), (V.d (D.int IntKind.i64 (↑(List.length rows) : Int)))), ((nat_lit 12), (V.d (D.int IntKind.i64 (IntKind.wrap IntKind.i64 ((↑i : Int) + (1 : Int))))))], h := [], og := [] }) 12 [(1, bt), (2, .v (V.d (D.ref (List.flatMap (Ty.enc rowT) rows) ((Int.toNat (↑i : Int)) * (7 : Nat))))), (3, .v (V.d (D.agg (Ty.enc rowT (Ty.nth rowT rows (Int.toNat (↑i : Int))))))), (4, .v (V.d (D.agg [(Ty.slD cellT (lineOf rows i)), (D.int IntKind.i64 (↑(aheadOf rows i) : Int))]))), (8, .l (Ex.exit (2 : Nat)) (stKx rows i (Ty.nth rowT rows i) (lineOf rows i) (aheadOf rows i) (rowMarks rows M i) (kEnd rows i))), (12, bt), (13, bt), (14, bt), (15, bt), (16, bt), (17, bt), (18, bt), (19, bt), (24, .v (Ty.tailV markT (51 : TypeId) ((rowMarks rows M i) ++ [((↑i : Int), (↑(List.length (Prod.fst (Ty.nth rowT rows i))) : Int), (0 : Int), (Prod.fst (Prod.snd (Prod.snd (Ty.nth rowT rows i)))), ())])))] (cP (@appendRMark (rowMarks rows M i) ((↑i : Int)) ((↑(List.length (Prod.fst (Ty.nth rowT rows i))) : Int)) ((0 : Int)) (Prod.fst (Prod.snd (Prod.snd (Ty.nth rowT rows i)))) (by (((try simp only [Bool.not_eq_true', Bool.not_eq_false', Bool.and_eq_true, Bool.and_eq_false_iff, decide_eq_true_eq, decide_eq_false_iff_not, beq_iff_eq, beq_eq_false_iff_ne, bne_iff_ne, bne_eq_false_iff_eq, ne_eq, not_and, Int.toNat_natCast] at *); (try simp only [Row.cells, Row.wrapped, Row.end_, Cell.kind, Cell.at] at *); (try simp (disch := omega) only [wrapId, toNatAdd, toNatSucc, isAt, reduceCtorEq, or_false, and_true, Bool.and_true, Bool.and_eq_true, Bool.and_eq_false_iff, beq_iff_eq, beq_eq_false_iff_ne, ne_eq, Int.toNat_natCast] at *)) <;> first | omega | assumption))) (cP h1 (cP h1 (cP h1 (cP h1 (cP h1 (cP h1 (cP h1 (cP h1 (cE (@rmLoop1 (rows) (i) (M) hs (by (((try simp only [Bool.not_eq_true', Bool.not_eq_false', Bool.and_eq_true, Bool.and_eq_false_iff, decide_eq_true_eq, decide_eq_false_iff_not, beq_iff_eq, beq_eq_false_iff_ne, bne_iff_ne, bne_eq_false_iff_eq, ne_eq, not_and, Int.toNat_natCast] at *); (try simp only [Row.cells, Row.wrapped, Row.end_, Cell.kind, Cell.at] at *); (try simp (disch := omega) only [wrapId, toNatAdd, toNatSucc, isAt, reduceCtorEq, or_false, and_true, Bool.and_true, Bool.and_eq_true, Bool.and_eq_false_iff, beq_iff_eq, beq_eq_false_iff_ne, ne_eq, Int.toNat_natCast] at *)) <;> first | omega | assumption)) hM) (cC (@rline (rows) (i) hs hr (by (((try simp only [Bool.not_eq_true', Bool.not_eq_false', Bool.and_eq_true, Bool.and_eq_false_iff, decide_eq_true_eq, decide_eq_false_iff_not, beq_iff_eq, beq_eq_false_iff_ne, bne_iff_ne, bne_eq_false_iff_eq, ne_eq, not_and, Int.toNat_natCast] at *); (try simp only [Row.cells, Row.wrapped, Row.end_, Cell.kind, Cell.at] at *); (try simp (disch := omega) only [wrapId, toNatAdd, toNatSucc, isAt, reduceCtorEq, or_false, and_true, Bool.and_true, Bool.and_eq_true, Bool.and_eq_false_iff, beq_iff_eq, beq_eq_false_iff_ne, ne_eq, Int.toNat_natCast] at *)) <;> first | omega | assumption))) (cP (@loadRow (rows) ([]) (Int.toNat (↑i : Int)) (by (((try simp only [Bool.not_eq_true', Bool.not_eq_false', Bool.and_eq_true, Bool.and_eq_false_iff, decide_eq_true_eq, decide_eq_false_iff_not, beq_iff_eq, beq_eq_false_iff_ne, bne_iff_ne, bne_eq_false_iff_eq, ne_eq, not_and, Int.toNat_natCast] at *); (try simp only [Row.cells, Row.wrapped, Row.end_, Cell.kind, Cell.at] at *); (try simp (disch := omega) only [wrapId, toNatAdd, toNatSucc, isAt, reduceCtorEq, or_false, and_true, Bool.and_true, Bool.and_eq_true, Bool.and_eq_false_iff, beq_iff_eq, beq_eq_false_iff_ne, ne_eq, Int.toNat_natCast] at *)) <;> first | omega | assumption))) (cP (@iaddrRow (rows) ((↑i : Int)) (by (((try simp only [Bool.not_eq_true', Bool.not_eq_false', Bool.and_eq_true, Bool.and_eq_false_iff, decide_eq_true_eq, decide_eq_false_iff_not, beq_iff_eq, beq_eq_false_iff_ne, bne_iff_ne, bne_eq_false_iff_eq, ne_eq, not_and, Int.toNat_natCast] at *); (try simp only [Row.cells, Row.wrapped, Row.end_, Cell.kind, Cell.at] at *); (try simp (disch := omega) only [wrapId, toNatAdd, toNatSucc, isAt, reduceCtorEq, or_false, and_true, Bool.and_true, Bool.and_eq_true, Bool.and_eq_false_iff, beq_iff_eq, beq_eq_false_iff_ne, ne_eq, Int.toNat_natCast] at *)) <;> first | omega | assumption)) (by (((try simp only [Bool.not_eq_true', Bool.not_eq_false', Bool.and_eq_true, Bool.and_eq_false_iff, decide_eq_true_eq, decide_eq_false_iff_not, beq_iff_eq, beq_eq_false_iff_ne, bne_iff_ne, bne_eq_false_iff_eq, ne_eq, not_and, Int.toNat_natCast] at *); (try simp only [Row.cells, Row.wrapped, Row.end_, Cell.kind, Cell.at] at *); (try simp (disch := omega) only [wrapId, toNatAdd, toNatSucc, isAt, reduceCtorEq, or_false, and_true, Bool.and_true, Bool.and_eq_true, Bool.and_eq_false_iff, beq_iff_eq, beq_eq_false_iff_ne, ne_eq, Int.toNat_natCast] at *)) <;> first | omega | assumption))) (cP h0 nilE)))))))))))))) (by kernel_rfl)).to (by ((try simp (disch := omega) only [wrapId, toNatAdd, toNatSucc, goesOn, Row.wrapped] at *); (try simp only [Int.toNat_natCast, beq_iff_eq, beq_eq_false_iff_ne, bne_iff_ne, bne_eq_false_iff_eq, ne_eq, Int.natCast_eq_zero, Int.natCast_inj, Row.cells] at *); first | (simp (disch := omega) [Ty.enc, stopAt, endMark, lineMarks, lineM, lineA, lineW, Row.end_, inA, inW, inM, mk, Cell.kind, Cell.at, Row.cells, wrapId, mP, isAt, toNatPred, toNatAdd, toNatSucc, goesOn, ltF, ltT, Row.wrapped, Ty.slD, *]; done) | (subst_vars; simp (disch := omega) [Ty.enc, stopAt, endMark, lineMarks, lineM, lineA, lineW, Row.end_, inA, inW, inM, mk, Cell.kind, Cell.at, Row.cells, wrapId, mP, isAt, toNatPred, toNatAdd, toNatSucc, goesOn, ltF, ltT, Row.wrapped, Ty.slD, *]; done)))
set_option maxHeartbeats 4000000 in
theorem rmRoundA : rmRoundA_T := by
  intro rows M i hs hr hi hw hM hM2
  have h0 : (decide ((↑i : Int) < (↑(List.length rows) : Int))) = true := by (((try simp only [Bool.not_eq_true', Bool.not_eq_false', Bool.and_eq_true, Bool.and_eq_false_iff, decide_eq_true_eq, decide_eq_false_iff_not, beq_iff_eq, beq_eq_false_iff_ne, bne_iff_ne, bne_eq_false_iff_eq, ne_eq, not_and, Int.toNat_natCast] at *); (try simp only [Row.cells, Row.wrapped, Row.end_, Cell.kind, Cell.at] at *); (try simp (disch := omega) only [wrapId, toNatAdd, toNatSucc, isAt, reduceCtorEq, or_false, and_true, Bool.and_true, Bool.and_eq_true, Bool.and_eq_false_iff, beq_iff_eq, beq_eq_false_iff_ne, ne_eq, Int.toNat_natCast] at *)) <;> first | omega | assumption)
  have h1 : ((↑i : Int) == (IntKind.wrap IntKind.i64 ((↑(List.length rows) : Int) - (1 : Int)))) = false := by (((try simp only [Bool.not_eq_true', Bool.not_eq_false', Bool.and_eq_true, Bool.and_eq_false_iff, decide_eq_true_eq, decide_eq_false_iff_not, beq_iff_eq, beq_eq_false_iff_ne, bne_iff_ne, bne_eq_false_iff_eq, ne_eq, not_and, Int.toNat_natCast] at *); (try simp only [Row.cells, Row.wrapped, Row.end_, Cell.kind, Cell.at] at *); (try simp (disch := omega) only [wrapId, toNatAdd, toNatSucc, isAt, reduceCtorEq, or_false, and_true, Bool.and_true, Bool.and_eq_true, Bool.and_eq_false_iff, beq_iff_eq, beq_eq_false_iff_ne, ne_eq, Int.toNat_natCast] at *)) <;> first | omega | assumption)
  have h2 : (!(Prod.fst (Prod.snd (Prod.snd (Prod.snd (Prod.snd (Ty.nth rowT rows (Int.toNat (IntKind.wrap IntKind.i64 ((↑i : Int) + (1 : Int))))))))))) = true := by (((try simp only [Bool.not_eq_true', Bool.not_eq_false', Bool.and_eq_true, Bool.and_eq_false_iff, decide_eq_true_eq, decide_eq_false_iff_not, beq_iff_eq, beq_eq_false_iff_ne, bne_iff_ne, bne_eq_false_iff_eq, ne_eq, not_and, Int.toNat_natCast] at *); (try simp only [Row.cells, Row.wrapped, Row.end_, Cell.kind, Cell.at] at *); (try simp (disch := omega) only [wrapId, toNatAdd, toNatSucc, isAt, reduceCtorEq, or_false, and_true, Bool.and_true, Bool.and_eq_true, Bool.and_eq_false_iff, beq_iff_eq, beq_eq_false_iff_ne, ne_eq, Int.toNat_natCast] at *)) <;> first | omega | assumption)
  exact (pC (st' := { s := [((nat_lit 0), (V.d (D.sl (List.flatMap (Ty.enc rowT) rows) (List.length rows)))), ((nat_lit 3), (V.tail (nat_lit 51) (List.flatMap (Ty.enc markT) ((rowMarks rows M i) ++ [((↑i : Int), (↑(List.length (Prod.fst (Ty.nth rowT rows i))) : Int), (0 : Int), (Prod.fst (Prod.snd (Prod.snd (Ty.nth rowT rows i)))), ())])) (List.length ((rowMarks rows M i) ++ [((↑i : Int), (↑(List.length (Prod.fst (Ty.nth rowT rows i))) : Int), (0 : Int), (Prod.fst (Prod.snd (Prod.snd (Ty.nth rowT rows i)))), ())])))), ((nat_lit 10), (V.d (D.sl (List.flatMap (Ty.enc rowT) rows) (List.length rows)))), ((nat_lit 11), (V.d (D.int IntKind.i64 (↑(List.length rows) : Int)))), ((nat_lit 12), (V.d (D.int IntKind.i64 (IntKind.wrap IntKind.i64 ((↑i : Int) + (1 : Int))))))], h := [], og := [] }) 12 [(1, bt), (2, .v (V.d (D.ref (List.flatMap (Ty.enc rowT) rows) ((Int.toNat (↑i : Int)) * (7 : Nat))))), (3, .v (V.d (D.agg (Ty.enc rowT (Ty.nth rowT rows (Int.toNat (↑i : Int))))))), (4, .v (V.d (D.agg [(Ty.slD cellT (lineOf rows i)), (D.int IntKind.i64 (↑(aheadOf rows i) : Int))]))), (8, .l (Ex.exit (2 : Nat)) (stKx rows i (Ty.nth rowT rows i) (lineOf rows i) (aheadOf rows i) (rowMarks rows M i) (kEnd rows i))), (12, bf), (13, bf), (14, bf), (16, bf), (17, .v (V.d (D.ref (List.flatMap (Ty.enc rowT) rows) ((Int.toNat (IntKind.wrap IntKind.i64 ((↑i : Int) + (1 : Int)))) * (7 : Nat))))), (18, bf), (19, bf), (20, .v (V.d (List.getD (Ty.enc rowT (Ty.nth rowT rows (Int.toNat (IntKind.wrap IntKind.i64 ((↑i : Int) + (1 : Int)))))) (nat_lit 4) D.und))), (21, bf), (22, bf), (23, bt), (27, .v (Ty.tailV markT (51 : TypeId) ((rowMarks rows M i) ++ [((↑i : Int), (↑(List.length (Prod.fst (Ty.nth rowT rows i))) : Int), (0 : Int), (Prod.fst (Prod.snd (Prod.snd (Ty.nth rowT rows i)))), ())])))] (cP (@appendRMark (rowMarks rows M i) ((↑i : Int)) ((↑(List.length (Prod.fst (Ty.nth rowT rows i))) : Int)) ((0 : Int)) (Prod.fst (Prod.snd (Prod.snd (Ty.nth rowT rows i)))) (by (((try simp only [Bool.not_eq_true', Bool.not_eq_false', Bool.and_eq_true, Bool.and_eq_false_iff, decide_eq_true_eq, decide_eq_false_iff_not, beq_iff_eq, beq_eq_false_iff_ne, bne_iff_ne, bne_eq_false_iff_eq, ne_eq, not_and, Int.toNat_natCast] at *); (try simp only [Row.cells, Row.wrapped, Row.end_, Cell.kind, Cell.at] at *); (try simp (disch := omega) only [wrapId, toNatAdd, toNatSucc, isAt, reduceCtorEq, or_false, and_true, Bool.and_true, Bool.and_eq_true, Bool.and_eq_false_iff, beq_iff_eq, beq_eq_false_iff_ne, ne_eq, Int.toNat_natCast] at *)) <;> first | omega | assumption))) (cP h2 (cP h1 (cP h1 (cP (@loadRowB (rows) ([(Ob.cells [(V.d (D.sl (List.flatMap (Ty.enc cellT) (Prod.fst (Ty.nth rowT rows i))) (List.length (Prod.fst (Ty.nth rowT rows i))))), (V.d (D.int IntKind.i64 (Prod.fst (Prod.snd (Ty.nth rowT rows i))))), (V.d (D.int IntKind.i64 (Prod.fst (Prod.snd (Prod.snd (Ty.nth rowT rows i)))))), (V.d (D.int IntKind.i64 (Prod.fst (Prod.snd (Prod.snd (Prod.snd (Ty.nth rowT rows i))))))), (V.d (D.bool (Prod.fst (Prod.snd (Prod.snd (Prod.snd (Prod.snd (Ty.nth rowT rows i)))))))), (V.d (D.bool (Prod.fst (Prod.snd (Prod.snd (Prod.snd (Prod.snd (Prod.snd (Ty.nth rowT rows i))))))))), (V.d (D.int IntKind.i64 (Prod.fst (Prod.snd (Prod.snd (Prod.snd (Prod.snd (Prod.snd (Prod.snd (Ty.nth rowT rows i))))))))))]), (Ob.cells [(V.d (D.sl (List.flatMap (Ty.enc cellT) (lineOf rows i)) (List.length (lineOf rows i)))), (V.d (D.int IntKind.i64 (↑(aheadOf rows i) : Int)))])]) (Int.toNat (IntKind.wrap IntKind.i64 ((↑i : Int) + (1 : Int)))) (nat_lit 4) (by (((try simp only [Bool.not_eq_true', Bool.not_eq_false', Bool.and_eq_true, Bool.and_eq_false_iff, decide_eq_true_eq, decide_eq_false_iff_not, beq_iff_eq, beq_eq_false_iff_ne, bne_iff_ne, bne_eq_false_iff_eq, ne_eq, not_and, Int.toNat_natCast] at *); (try simp only [Row.cells, Row.wrapped, Row.end_, Cell.kind, Cell.at] at *); (try simp (disch := omega) only [wrapId, toNatAdd, toNatSucc, isAt, reduceCtorEq, or_false, and_true, Bool.and_true, Bool.and_eq_true, Bool.and_eq_false_iff, beq_iff_eq, beq_eq_false_iff_ne, ne_eq, Int.toNat_natCast] at *)) <;> first | omega | assumption)) (by (((try simp only [Bool.not_eq_true', Bool.not_eq_false', Bool.and_eq_true, Bool.and_eq_false_iff, decide_eq_true_eq, decide_eq_false_iff_not, beq_iff_eq, beq_eq_false_iff_ne, bne_iff_ne, bne_eq_false_iff_eq, ne_eq, not_and, Int.toNat_natCast] at *); (try simp only [Row.cells, Row.wrapped, Row.end_, Cell.kind, Cell.at] at *); (try simp (disch := omega) only [wrapId, toNatAdd, toNatSucc, isAt, reduceCtorEq, or_false, and_true, Bool.and_true, Bool.and_eq_true, Bool.and_eq_false_iff, beq_iff_eq, beq_eq_false_iff_ne, ne_eq, Int.toNat_natCast] at *)) <;> first | omega | assumption))) (cP h1 (cP h1 (cP (@iaddrRow (rows) (IntKind.wrap IntKind.i64 ((↑i : Int) + (1 : Int))) (by (((try simp only [Bool.not_eq_true', Bool.not_eq_false', Bool.and_eq_true, Bool.and_eq_false_iff, decide_eq_true_eq, decide_eq_false_iff_not, beq_iff_eq, beq_eq_false_iff_ne, bne_iff_ne, bne_eq_false_iff_eq, ne_eq, not_and, Int.toNat_natCast] at *); (try simp only [Row.cells, Row.wrapped, Row.end_, Cell.kind, Cell.at] at *); (try simp (disch := omega) only [wrapId, toNatAdd, toNatSucc, isAt, reduceCtorEq, or_false, and_true, Bool.and_true, Bool.and_eq_true, Bool.and_eq_false_iff, beq_iff_eq, beq_eq_false_iff_ne, ne_eq, Int.toNat_natCast] at *)) <;> first | omega | assumption)) (by (((try simp only [Bool.not_eq_true', Bool.not_eq_false', Bool.and_eq_true, Bool.and_eq_false_iff, decide_eq_true_eq, decide_eq_false_iff_not, beq_iff_eq, beq_eq_false_iff_ne, bne_iff_ne, bne_eq_false_iff_eq, ne_eq, not_and, Int.toNat_natCast] at *); (try simp only [Row.cells, Row.wrapped, Row.end_, Cell.kind, Cell.at] at *); (try simp (disch := omega) only [wrapId, toNatAdd, toNatSucc, isAt, reduceCtorEq, or_false, and_true, Bool.and_true, Bool.and_eq_true, Bool.and_eq_false_iff, beq_iff_eq, beq_eq_false_iff_ne, ne_eq, Int.toNat_natCast] at *)) <;> first | omega | assumption))) (cP h1 (cP h1 (cP h1 (cP h1 (cE (@rmLoop1 (rows) (i) (M) hs (by (((try simp only [Bool.not_eq_true', Bool.not_eq_false', Bool.and_eq_true, Bool.and_eq_false_iff, decide_eq_true_eq, decide_eq_false_iff_not, beq_iff_eq, beq_eq_false_iff_ne, bne_iff_ne, bne_eq_false_iff_eq, ne_eq, not_and, Int.toNat_natCast] at *); (try simp only [Row.cells, Row.wrapped, Row.end_, Cell.kind, Cell.at] at *); (try simp (disch := omega) only [wrapId, toNatAdd, toNatSucc, isAt, reduceCtorEq, or_false, and_true, Bool.and_true, Bool.and_eq_true, Bool.and_eq_false_iff, beq_iff_eq, beq_eq_false_iff_ne, ne_eq, Int.toNat_natCast] at *)) <;> first | omega | assumption)) hM) (cC (@rline (rows) (i) hs hr (by (((try simp only [Bool.not_eq_true', Bool.not_eq_false', Bool.and_eq_true, Bool.and_eq_false_iff, decide_eq_true_eq, decide_eq_false_iff_not, beq_iff_eq, beq_eq_false_iff_ne, bne_iff_ne, bne_eq_false_iff_eq, ne_eq, not_and, Int.toNat_natCast] at *); (try simp only [Row.cells, Row.wrapped, Row.end_, Cell.kind, Cell.at] at *); (try simp (disch := omega) only [wrapId, toNatAdd, toNatSucc, isAt, reduceCtorEq, or_false, and_true, Bool.and_true, Bool.and_eq_true, Bool.and_eq_false_iff, beq_iff_eq, beq_eq_false_iff_ne, ne_eq, Int.toNat_natCast] at *)) <;> first | omega | assumption))) (cP (@loadRow (rows) ([]) (Int.toNat (↑i : Int)) (by (((try simp only [Bool.not_eq_true', Bool.not_eq_false', Bool.and_eq_true, Bool.and_eq_false_iff, decide_eq_true_eq, decide_eq_false_iff_not, beq_iff_eq, beq_eq_false_iff_ne, bne_iff_ne, bne_eq_false_iff_eq, ne_eq, not_and, Int.toNat_natCast] at *); (try simp only [Row.cells, Row.wrapped, Row.end_, Cell.kind, Cell.at] at *); (try simp (disch := omega) only [wrapId, toNatAdd, toNatSucc, isAt, reduceCtorEq, or_false, and_true, Bool.and_true, Bool.and_eq_true, Bool.and_eq_false_iff, beq_iff_eq, beq_eq_false_iff_ne, ne_eq, Int.toNat_natCast] at *)) <;> first | omega | assumption))) (cP (@iaddrRow (rows) ((↑i : Int)) (by (((try simp only [Bool.not_eq_true', Bool.not_eq_false', Bool.and_eq_true, Bool.and_eq_false_iff, decide_eq_true_eq, decide_eq_false_iff_not, beq_iff_eq, beq_eq_false_iff_ne, bne_iff_ne, bne_eq_false_iff_eq, ne_eq, not_and, Int.toNat_natCast] at *); (try simp only [Row.cells, Row.wrapped, Row.end_, Cell.kind, Cell.at] at *); (try simp (disch := omega) only [wrapId, toNatAdd, toNatSucc, isAt, reduceCtorEq, or_false, and_true, Bool.and_true, Bool.and_eq_true, Bool.and_eq_false_iff, beq_iff_eq, beq_eq_false_iff_ne, ne_eq, Int.toNat_natCast] at *)) <;> first | omega | assumption)) (by (((try simp only [Bool.not_eq_true', Bool.not_eq_false', Bool.and_eq_true, Bool.and_eq_false_iff, decide_eq_true_eq, decide_eq_false_iff_not, beq_iff_eq, beq_eq_false_iff_ne, bne_iff_ne, bne_eq_false_iff_eq, ne_eq, not_and, Int.toNat_natCast] at *); (try simp only [Row.cells, Row.wrapped, Row.end_, Cell.kind, Cell.at] at *); (try simp (disch := omega) only [wrapId, toNatAdd, toNatSucc, isAt, reduceCtorEq, or_false, and_true, Bool.and_true, Bool.and_eq_true, Bool.and_eq_false_iff, beq_iff_eq, beq_eq_false_iff_ne, ne_eq, Int.toNat_natCast] at *)) <;> first | omega | assumption))) (cP h0 nilE))))))))))))))))) (by kernel_rfl)).to (by ((try simp (disch := omega) only [wrapId, toNatAdd, toNatSucc, goesOn, Row.wrapped] at *); (try simp only [Int.toNat_natCast, beq_iff_eq, beq_eq_false_iff_ne, bne_iff_ne, bne_eq_false_iff_eq, ne_eq, Int.natCast_eq_zero, Int.natCast_inj, Row.cells] at *); first | (simp (disch := omega) [Ty.enc, stopAt, endMark, lineMarks, lineM, lineA, lineW, Row.end_, inA, inW, inM, mk, Cell.kind, Cell.at, Row.cells, wrapId, mP, isAt, toNatPred, toNatAdd, toNatSucc, goesOn, ltF, ltT, Row.wrapped, Ty.slD, *]; done) | (subst_vars; simp (disch := omega) [Ty.enc, stopAt, endMark, lineMarks, lineM, lineA, lineW, Row.end_, inA, inW, inM, mk, Cell.kind, Cell.at, Row.cells, wrapId, mP, isAt, toNatPred, toNatAdd, toNatSucc, goesOn, ltF, ltT, Row.wrapped, Ty.slD, *]; done)))
set_option maxHeartbeats 4000000 in
theorem rmRoundB : rmRoundB_T := by
  intro rows M i hs hr hi hw hM hM2
  have h0 : (decide ((↑i : Int) < (↑(List.length rows) : Int))) = true := by (((try simp only [Bool.not_eq_true', Bool.not_eq_false', Bool.and_eq_true, Bool.and_eq_false_iff, decide_eq_true_eq, decide_eq_false_iff_not, beq_iff_eq, beq_eq_false_iff_ne, bne_iff_ne, bne_eq_false_iff_eq, ne_eq, not_and, Int.toNat_natCast] at *); (try simp only [Row.cells, Row.wrapped, Row.end_, Cell.kind, Cell.at] at *); (try simp (disch := omega) only [wrapId, toNatAdd, toNatSucc, isAt, reduceCtorEq, or_false, and_true, Bool.and_true, Bool.and_eq_true, Bool.and_eq_false_iff, beq_iff_eq, beq_eq_false_iff_ne, ne_eq, Int.toNat_natCast] at *)) <;> first | omega | assumption)
  have h1 : ((↑i : Int) == (IntKind.wrap IntKind.i64 ((↑(List.length rows) : Int) - (1 : Int)))) = false := by (((try simp only [Bool.not_eq_true', Bool.not_eq_false', Bool.and_eq_true, Bool.and_eq_false_iff, decide_eq_true_eq, decide_eq_false_iff_not, beq_iff_eq, beq_eq_false_iff_ne, bne_iff_ne, bne_eq_false_iff_eq, ne_eq, not_and, Int.toNat_natCast] at *); (try simp only [Row.cells, Row.wrapped, Row.end_, Cell.kind, Cell.at] at *); (try simp (disch := omega) only [wrapId, toNatAdd, toNatSucc, isAt, reduceCtorEq, or_false, and_true, Bool.and_true, Bool.and_eq_true, Bool.and_eq_false_iff, beq_iff_eq, beq_eq_false_iff_ne, ne_eq, Int.toNat_natCast] at *)) <;> first | omega | assumption)
  have h2 : (!(Prod.fst (Prod.snd (Prod.snd (Prod.snd (Prod.snd (Ty.nth rowT rows (Int.toNat (IntKind.wrap IntKind.i64 ((↑i : Int) + (1 : Int))))))))))) = false := by (((try simp only [Bool.not_eq_true', Bool.not_eq_false', Bool.and_eq_true, Bool.and_eq_false_iff, decide_eq_true_eq, decide_eq_false_iff_not, beq_iff_eq, beq_eq_false_iff_ne, bne_iff_ne, bne_eq_false_iff_eq, ne_eq, not_and, Int.toNat_natCast] at *); (try simp only [Row.cells, Row.wrapped, Row.end_, Cell.kind, Cell.at] at *); (try simp (disch := omega) only [wrapId, toNatAdd, toNatSucc, isAt, reduceCtorEq, or_false, and_true, Bool.and_true, Bool.and_eq_true, Bool.and_eq_false_iff, beq_iff_eq, beq_eq_false_iff_ne, ne_eq, Int.toNat_natCast] at *)) <;> first | omega | assumption)
  exact (pC (st' := { s := [((nat_lit 0), (V.d (D.sl (List.flatMap (Ty.enc rowT) rows) (List.length rows)))), ((nat_lit 3), (V.tail (nat_lit 51) (List.flatMap (Ty.enc markT) (rowMarks rows M i)) (List.length (rowMarks rows M i)))), ((nat_lit 10), (V.d (D.sl (List.flatMap (Ty.enc rowT) rows) (List.length rows)))), ((nat_lit 11), (V.d (D.int IntKind.i64 (↑(List.length rows) : Int)))), ((nat_lit 12), (V.d (D.int IntKind.i64 (IntKind.wrap IntKind.i64 ((↑i : Int) + (1 : Int))))))], h := [], og := [] }) 12 [(1, bt), (2, .v (V.d (D.ref (List.flatMap (Ty.enc rowT) rows) ((Int.toNat (↑i : Int)) * (7 : Nat))))), (3, .v (V.d (D.agg (Ty.enc rowT (Ty.nth rowT rows (Int.toNat (↑i : Int))))))), (4, .v (V.d (D.agg [(Ty.slD cellT (lineOf rows i)), (D.int IntKind.i64 (↑(aheadOf rows i) : Int))]))), (8, .l (Ex.exit (2 : Nat)) (stKx rows i (Ty.nth rowT rows i) (lineOf rows i) (aheadOf rows i) (rowMarks rows M i) (kEnd rows i))), (12, bf), (13, bf), (14, bf), (16, bf), (17, .v (V.d (D.ref (List.flatMap (Ty.enc rowT) rows) ((Int.toNat (IntKind.wrap IntKind.i64 ((↑i : Int) + (1 : Int)))) * (7 : Nat))))), (18, bf), (19, bf), (20, .v (V.d (List.getD (Ty.enc rowT (Ty.nth rowT rows (Int.toNat (IntKind.wrap IntKind.i64 ((↑i : Int) + (1 : Int)))))) (nat_lit 4) D.und))), (21, bf), (22, bf), (23, bf)] (cP h2 (cP h1 (cP h1 (cP (@loadRowB (rows) ([(Ob.cells [(V.d (D.sl (List.flatMap (Ty.enc cellT) (Prod.fst (Ty.nth rowT rows i))) (List.length (Prod.fst (Ty.nth rowT rows i))))), (V.d (D.int IntKind.i64 (Prod.fst (Prod.snd (Ty.nth rowT rows i))))), (V.d (D.int IntKind.i64 (Prod.fst (Prod.snd (Prod.snd (Ty.nth rowT rows i)))))), (V.d (D.int IntKind.i64 (Prod.fst (Prod.snd (Prod.snd (Prod.snd (Ty.nth rowT rows i))))))), (V.d (D.bool (Prod.fst (Prod.snd (Prod.snd (Prod.snd (Prod.snd (Ty.nth rowT rows i)))))))), (V.d (D.bool (Prod.fst (Prod.snd (Prod.snd (Prod.snd (Prod.snd (Prod.snd (Ty.nth rowT rows i))))))))), (V.d (D.int IntKind.i64 (Prod.fst (Prod.snd (Prod.snd (Prod.snd (Prod.snd (Prod.snd (Prod.snd (Ty.nth rowT rows i))))))))))]), (Ob.cells [(V.d (D.sl (List.flatMap (Ty.enc cellT) (lineOf rows i)) (List.length (lineOf rows i)))), (V.d (D.int IntKind.i64 (↑(aheadOf rows i) : Int)))])]) (Int.toNat (IntKind.wrap IntKind.i64 ((↑i : Int) + (1 : Int)))) (nat_lit 4) (by (((try simp only [Bool.not_eq_true', Bool.not_eq_false', Bool.and_eq_true, Bool.and_eq_false_iff, decide_eq_true_eq, decide_eq_false_iff_not, beq_iff_eq, beq_eq_false_iff_ne, bne_iff_ne, bne_eq_false_iff_eq, ne_eq, not_and, Int.toNat_natCast] at *); (try simp only [Row.cells, Row.wrapped, Row.end_, Cell.kind, Cell.at] at *); (try simp (disch := omega) only [wrapId, toNatAdd, toNatSucc, isAt, reduceCtorEq, or_false, and_true, Bool.and_true, Bool.and_eq_true, Bool.and_eq_false_iff, beq_iff_eq, beq_eq_false_iff_ne, ne_eq, Int.toNat_natCast] at *)) <;> first | omega | assumption)) (by (((try simp only [Bool.not_eq_true', Bool.not_eq_false', Bool.and_eq_true, Bool.and_eq_false_iff, decide_eq_true_eq, decide_eq_false_iff_not, beq_iff_eq, beq_eq_false_iff_ne, bne_iff_ne, bne_eq_false_iff_eq, ne_eq, not_and, Int.toNat_natCast] at *); (try simp only [Row.cells, Row.wrapped, Row.end_, Cell.kind, Cell.at] at *); (try simp (disch := omega) only [wrapId, toNatAdd, toNatSucc, isAt, reduceCtorEq, or_false, and_true, Bool.and_true, Bool.and_eq_true, Bool.and_eq_false_iff, beq_iff_eq, beq_eq_false_iff_ne, ne_eq, Int.toNat_natCast] at *)) <;> first | omega | assumption))) (cP h1 (cP h1 (cP (@iaddrRow (rows) (IntKind.wrap IntKind.i64 ((↑i : Int) + (1 : Int))) (by (((try simp only [Bool.not_eq_true', Bool.not_eq_false', Bool.and_eq_true, Bool.and_eq_false_iff, decide_eq_true_eq, decide_eq_false_iff_not, beq_iff_eq, beq_eq_false_iff_ne, bne_iff_ne, bne_eq_false_iff_eq, ne_eq, not_and, Int.toNat_natCast] at *); (try simp only [Row.cells, Row.wrapped, Row.end_, Cell.kind, Cell.at] at *); (try simp (disch := omega) only [wrapId, toNatAdd, toNatSucc, isAt, reduceCtorEq, or_false, and_true, Bool.and_true, Bool.and_eq_true, Bool.and_eq_false_iff, beq_iff_eq, beq_eq_false_iff_ne, ne_eq, Int.toNat_natCast] at *)) <;> first | omega | assumption)) (by (((try simp only [Bool.not_eq_true', Bool.not_eq_false', Bool.and_eq_true, Bool.and_eq_false_iff, decide_eq_true_eq, decide_eq_false_iff_not, beq_iff_eq, beq_eq_false_iff_ne, bne_iff_ne, bne_eq_false_iff_eq, ne_eq, not_and, Int.toNat_natCast] at *); (try simp only [Row.cells, Row.wrapped, Row.end_, Cell.kind, Cell.at] at *); (try simp (disch := omega) only [wrapId, toNatAdd, toNatSucc, isAt, reduceCtorEq, or_false, and_true, Bool.and_true, Bool.and_eq_true, Bool.and_eq_false_iff, beq_iff_eq, beq_eq_false_iff_ne, ne_eq, Int.toNat_natCast] at *)) <;> first | omega | assumption))) (cP h1 (cP h1 (cP h1 (cP h1 (cE (@rmLoop1 (rows) (i) (M) hs (by (((try simp only [Bool.not_eq_true', Bool.not_eq_false', Bool.and_eq_true, Bool.and_eq_false_iff, decide_eq_true_eq, decide_eq_false_iff_not, beq_iff_eq, beq_eq_false_iff_ne, bne_iff_ne, bne_eq_false_iff_eq, ne_eq, not_and, Int.toNat_natCast] at *); (try simp only [Row.cells, Row.wrapped, Row.end_, Cell.kind, Cell.at] at *); (try simp (disch := omega) only [wrapId, toNatAdd, toNatSucc, isAt, reduceCtorEq, or_false, and_true, Bool.and_true, Bool.and_eq_true, Bool.and_eq_false_iff, beq_iff_eq, beq_eq_false_iff_ne, ne_eq, Int.toNat_natCast] at *)) <;> first | omega | assumption)) hM) (cC (@rline (rows) (i) hs hr (by (((try simp only [Bool.not_eq_true', Bool.not_eq_false', Bool.and_eq_true, Bool.and_eq_false_iff, decide_eq_true_eq, decide_eq_false_iff_not, beq_iff_eq, beq_eq_false_iff_ne, bne_iff_ne, bne_eq_false_iff_eq, ne_eq, not_and, Int.toNat_natCast] at *); (try simp only [Row.cells, Row.wrapped, Row.end_, Cell.kind, Cell.at] at *); (try simp (disch := omega) only [wrapId, toNatAdd, toNatSucc, isAt, reduceCtorEq, or_false, and_true, Bool.and_true, Bool.and_eq_true, Bool.and_eq_false_iff, beq_iff_eq, beq_eq_false_iff_ne, ne_eq, Int.toNat_natCast] at *)) <;> first | omega | assumption))) (cP (@loadRow (rows) ([]) (Int.toNat (↑i : Int)) (by (((try simp only [Bool.not_eq_true', Bool.not_eq_false', Bool.and_eq_true, Bool.and_eq_false_iff, decide_eq_true_eq, decide_eq_false_iff_not, beq_iff_eq, beq_eq_false_iff_ne, bne_iff_ne, bne_eq_false_iff_eq, ne_eq, not_and, Int.toNat_natCast] at *); (try simp only [Row.cells, Row.wrapped, Row.end_, Cell.kind, Cell.at] at *); (try simp (disch := omega) only [wrapId, toNatAdd, toNatSucc, isAt, reduceCtorEq, or_false, and_true, Bool.and_true, Bool.and_eq_true, Bool.and_eq_false_iff, beq_iff_eq, beq_eq_false_iff_ne, ne_eq, Int.toNat_natCast] at *)) <;> first | omega | assumption))) (cP (@iaddrRow (rows) ((↑i : Int)) (by (((try simp only [Bool.not_eq_true', Bool.not_eq_false', Bool.and_eq_true, Bool.and_eq_false_iff, decide_eq_true_eq, decide_eq_false_iff_not, beq_iff_eq, beq_eq_false_iff_ne, bne_iff_ne, bne_eq_false_iff_eq, ne_eq, not_and, Int.toNat_natCast] at *); (try simp only [Row.cells, Row.wrapped, Row.end_, Cell.kind, Cell.at] at *); (try simp (disch := omega) only [wrapId, toNatAdd, toNatSucc, isAt, reduceCtorEq, or_false, and_true, Bool.and_true, Bool.and_eq_true, Bool.and_eq_false_iff, beq_iff_eq, beq_eq_false_iff_ne, ne_eq, Int.toNat_natCast] at *)) <;> first | omega | assumption)) (by (((try simp only [Bool.not_eq_true', Bool.not_eq_false', Bool.and_eq_true, Bool.and_eq_false_iff, decide_eq_true_eq, decide_eq_false_iff_not, beq_iff_eq, beq_eq_false_iff_ne, bne_iff_ne, bne_eq_false_iff_eq, ne_eq, not_and, Int.toNat_natCast] at *); (try simp only [Row.cells, Row.wrapped, Row.end_, Cell.kind, Cell.at] at *); (try simp (disch := omega) only [wrapId, toNatAdd, toNatSucc, isAt, reduceCtorEq, or_false, and_true, Bool.and_true, Bool.and_eq_true, Bool.and_eq_false_iff, beq_iff_eq, beq_eq_false_iff_ne, ne_eq, Int.toNat_natCast] at *)) <;> first | omega | assumption))) (cP h0 nilE)))))))))))))))) (by kernel_rfl)).to (by ((try simp (disch := omega) only [wrapId, toNatAdd, toNatSucc, goesOn, Row.wrapped] at *); (try simp only [Int.toNat_natCast, beq_iff_eq, beq_eq_false_iff_ne, bne_iff_ne, bne_eq_false_iff_eq, ne_eq, Int.natCast_eq_zero, Int.natCast_inj, Row.cells] at *); first | (simp (disch := omega) [Ty.enc, stopAt, endMark, lineMarks, lineM, lineA, lineW, Row.end_, inA, inW, inM, mk, Cell.kind, Cell.at, Row.cells, wrapId, mP, isAt, toNatPred, toNatAdd, toNatSucc, goesOn, ltF, ltT, Row.wrapped, Ty.slD, *]; done) | (subst_vars; simp (disch := omega) [Ty.enc, stopAt, endMark, lineMarks, lineM, lineA, lineW, Row.end_, inA, inW, inM, mk, Cell.kind, Cell.at, Row.cells, wrapId, mP, isAt, toNatPred, toNatAdd, toNatSucc, goesOn, ltF, ltT, Row.wrapped, Ty.slD, *]; done)))
set_option maxHeartbeats 4000000 in
theorem rmExit0 : rmExit0_T := by
  intro rows M
  have h0 : (decide ((↑(List.length rows) : Int) < (↑(List.length rows) : Int))) = false := by (((try simp only [Bool.not_eq_true', Bool.not_eq_false', Bool.and_eq_true, Bool.and_eq_false_iff, decide_eq_true_eq, decide_eq_false_iff_not, beq_iff_eq, beq_eq_false_iff_ne, bne_iff_ne, bne_eq_false_iff_eq, ne_eq, not_and, Int.toNat_natCast] at *); (try simp only [Row.cells, Row.wrapped, Row.end_, Cell.kind, Cell.at] at *); (try simp (disch := omega) only [wrapId, toNatAdd, toNatSucc, isAt, reduceCtorEq, or_false, and_true, Bool.and_true, Bool.and_eq_true, Bool.and_eq_false_iff, beq_iff_eq, beq_eq_false_iff_ne, ne_eq, Int.toNat_natCast] at *)) <;> first | omega | assumption)
  exact pR 12 [(1, bf)] (cP h0 nilE) (by kernel_rfl)
set_option maxHeartbeats 4000000 in
theorem sameRound : sameRound_T := by
  intro l m i hl hi hm e1 e2
  have h0 : (decide ((↑i : Int) < (↑(List.length l) : Int))) = true := by (((try simp only [eq_self, and_true, true_and, Bool.and_true, Bool.true_and, Bool.not_eq_true', Bool.not_eq_false', Bool.and_eq_true, Bool.and_eq_false_iff, decide_eq_true_eq, decide_eq_false_iff_not, beq_iff_eq, beq_eq_false_iff_ne, bne_iff_ne, bne_eq_false_iff_eq, ne_eq, not_and, Int.toNat_natCast] at *); (try simp only [Row.cells, Row.wrapped, Row.end_, Cell.kind, Cell.at] at *); (try simp (disch := omega) only [wrapId, toNatAdd, toNatSucc, isAt, reduceCtorEq, or_false, and_true, Bool.and_true, Bool.and_eq_true, Bool.and_eq_false_iff, beq_iff_eq, beq_eq_false_iff_ne, ne_eq, Int.toNat_natCast] at *)) <;> first | omega | assumption | (refine ⟨?_, ?_⟩ <;> assumption))
  have h1 : (decide ((↑i : Int) ≥ (↑(List.length m) : Int))) = false := by (((try simp only [eq_self, and_true, true_and, Bool.and_true, Bool.true_and, Bool.not_eq_true', Bool.not_eq_false', Bool.and_eq_true, Bool.and_eq_false_iff, decide_eq_true_eq, decide_eq_false_iff_not, beq_iff_eq, beq_eq_false_iff_ne, bne_iff_ne, bne_eq_false_iff_eq, ne_eq, not_and, Int.toNat_natCast] at *); (try simp only [Row.cells, Row.wrapped, Row.end_, Cell.kind, Cell.at] at *); (try simp (disch := omega) only [wrapId, toNatAdd, toNatSucc, isAt, reduceCtorEq, or_false, and_true, Bool.and_true, Bool.and_eq_true, Bool.and_eq_false_iff, beq_iff_eq, beq_eq_false_iff_ne, ne_eq, Int.toNat_natCast] at *)) <;> first | omega | assumption | (refine ⟨?_, ?_⟩ <;> assumption))
  have h2 : (!(((Prod.fst (Ty.nth pointT l (Int.toNat (↑i : Int)))) == (Prod.fst (Ty.nth markT m (Int.toNat (↑i : Int))))) && (((Prod.fst (Prod.snd (Ty.nth pointT l (Int.toNat (↑i : Int))))) == (Prod.fst (Prod.snd (Ty.nth markT m (Int.toNat (↑i : Int)))))) && true))) = false := by (((try simp only [eq_self, and_true, true_and, Bool.and_true, Bool.true_and, Bool.not_eq_true', Bool.not_eq_false', Bool.and_eq_true, Bool.and_eq_false_iff, decide_eq_true_eq, decide_eq_false_iff_not, beq_iff_eq, beq_eq_false_iff_ne, bne_iff_ne, bne_eq_false_iff_eq, ne_eq, not_and, Int.toNat_natCast] at *); (try simp only [Row.cells, Row.wrapped, Row.end_, Cell.kind, Cell.at] at *); (try simp (disch := omega) only [wrapId, toNatAdd, toNatSucc, isAt, reduceCtorEq, or_false, and_true, Bool.and_true, Bool.and_eq_true, Bool.and_eq_false_iff, beq_iff_eq, beq_eq_false_iff_ne, ne_eq, Int.toNat_natCast] at *)) <;> first | omega | assumption | (refine ⟨?_, ?_⟩ <;> assumption))
  exact (pC (st' := { s := [((nat_lit 0), (V.d (D.sl (List.flatMap (Ty.enc pointT) l) (List.length l)))), ((nat_lit 1), (V.d (D.sl (List.flatMap (Ty.enc markT) m) (List.length m)))), ((nat_lit 7), (V.d (D.int IntKind.i64 (↑(List.length l) : Int)))), ((nat_lit 8), (V.d (D.int IntKind.i64 (IntKind.wrap IntKind.i64 ((↑i : Int) + (1 : Int))))))], h := [], og := [] }) 12 [(1, bt), (4, bf), (5, bf), (6, bf), (7, .v (V.d (D.ref (List.flatMap (Ty.enc pointT) l) ((Int.toNat (↑i : Int)) * (2 : Nat))))), (8, bf), (9, .v (V.d (D.agg (Ty.enc pointT (Ty.nth pointT l (Int.toNat (↑i : Int))))))), (10, bf), (11, bf), (12, bf), (13, .v (V.d (D.ref (List.flatMap (Ty.enc markT) m) ((Int.toNat (↑i : Int)) * (4 : Nat))))), (14, bf), (15, bf), (16, .v (V.d (D.agg [(D.int IntKind.i64 (Prod.fst (Ty.nth markT m (Int.toNat (↑i : Int))))), (D.int IntKind.i64 (Prod.fst (Prod.snd (Ty.nth markT m (Int.toNat (↑i : Int))))))]))), (17, bf), (19, bf), (20, bf)] (cP h2 (cP h1 (cP h1 (cP (@loadRMarkP (m) ([]) (Int.toNat (↑i : Int)) (by (((try simp only [eq_self, and_true, true_and, Bool.and_true, Bool.true_and, Bool.not_eq_true', Bool.not_eq_false', Bool.and_eq_true, Bool.and_eq_false_iff, decide_eq_true_eq, decide_eq_false_iff_not, beq_iff_eq, beq_eq_false_iff_ne, bne_iff_ne, bne_eq_false_iff_eq, ne_eq, not_and, Int.toNat_natCast] at *); (try simp only [Row.cells, Row.wrapped, Row.end_, Cell.kind, Cell.at] at *); (try simp (disch := omega) only [wrapId, toNatAdd, toNatSucc, isAt, reduceCtorEq, or_false, and_true, Bool.and_true, Bool.and_eq_true, Bool.and_eq_false_iff, beq_iff_eq, beq_eq_false_iff_ne, ne_eq, Int.toNat_natCast] at *)) <;> first | omega | assumption | (refine ⟨?_, ?_⟩ <;> assumption)))) (cP h1 (cP h1 (cP (@iaddrRMark (m) ((↑i : Int)) (by (((try simp only [eq_self, and_true, true_and, Bool.and_true, Bool.true_and, Bool.not_eq_true', Bool.not_eq_false', Bool.and_eq_true, Bool.and_eq_false_iff, decide_eq_true_eq, decide_eq_false_iff_not, beq_iff_eq, beq_eq_false_iff_ne, bne_iff_ne, bne_eq_false_iff_eq, ne_eq, not_and, Int.toNat_natCast] at *); (try simp only [Row.cells, Row.wrapped, Row.end_, Cell.kind, Cell.at] at *); (try simp (disch := omega) only [wrapId, toNatAdd, toNatSucc, isAt, reduceCtorEq, or_false, and_true, Bool.and_true, Bool.and_eq_true, Bool.and_eq_false_iff, beq_iff_eq, beq_eq_false_iff_ne, ne_eq, Int.toNat_natCast] at *)) <;> first | omega | assumption | (refine ⟨?_, ?_⟩ <;> assumption))) (by (((try simp only [eq_self, and_true, true_and, Bool.and_true, Bool.true_and, Bool.not_eq_true', Bool.not_eq_false', Bool.and_eq_true, Bool.and_eq_false_iff, decide_eq_true_eq, decide_eq_false_iff_not, beq_iff_eq, beq_eq_false_iff_ne, bne_iff_ne, bne_eq_false_iff_eq, ne_eq, not_and, Int.toNat_natCast] at *); (try simp only [Row.cells, Row.wrapped, Row.end_, Cell.kind, Cell.at] at *); (try simp (disch := omega) only [wrapId, toNatAdd, toNatSucc, isAt, reduceCtorEq, or_false, and_true, Bool.and_true, Bool.and_eq_true, Bool.and_eq_false_iff, beq_iff_eq, beq_eq_false_iff_ne, ne_eq, Int.toNat_natCast] at *)) <;> first | omega | assumption | (refine ⟨?_, ?_⟩ <;> assumption)))) (cP h1 (cP h1 (cP h1 (cP (@loadPoint (l) ([]) (Int.toNat (↑i : Int)) (by (((try simp only [eq_self, and_true, true_and, Bool.and_true, Bool.true_and, Bool.not_eq_true', Bool.not_eq_false', Bool.and_eq_true, Bool.and_eq_false_iff, decide_eq_true_eq, decide_eq_false_iff_not, beq_iff_eq, beq_eq_false_iff_ne, bne_iff_ne, bne_eq_false_iff_eq, ne_eq, not_and, Int.toNat_natCast] at *); (try simp only [Row.cells, Row.wrapped, Row.end_, Cell.kind, Cell.at] at *); (try simp (disch := omega) only [wrapId, toNatAdd, toNatSucc, isAt, reduceCtorEq, or_false, and_true, Bool.and_true, Bool.and_eq_true, Bool.and_eq_false_iff, beq_iff_eq, beq_eq_false_iff_ne, ne_eq, Int.toNat_natCast] at *)) <;> first | omega | assumption | (refine ⟨?_, ?_⟩ <;> assumption)))) (cP h1 (cP (@iaddrPoint (l) ((↑i : Int)) (by (((try simp only [eq_self, and_true, true_and, Bool.and_true, Bool.true_and, Bool.not_eq_true', Bool.not_eq_false', Bool.and_eq_true, Bool.and_eq_false_iff, decide_eq_true_eq, decide_eq_false_iff_not, beq_iff_eq, beq_eq_false_iff_ne, bne_iff_ne, bne_eq_false_iff_eq, ne_eq, not_and, Int.toNat_natCast] at *); (try simp only [Row.cells, Row.wrapped, Row.end_, Cell.kind, Cell.at] at *); (try simp (disch := omega) only [wrapId, toNatAdd, toNatSucc, isAt, reduceCtorEq, or_false, and_true, Bool.and_true, Bool.and_eq_true, Bool.and_eq_false_iff, beq_iff_eq, beq_eq_false_iff_ne, ne_eq, Int.toNat_natCast] at *)) <;> first | omega | assumption | (refine ⟨?_, ?_⟩ <;> assumption))) (by (((try simp only [eq_self, and_true, true_and, Bool.and_true, Bool.true_and, Bool.not_eq_true', Bool.not_eq_false', Bool.and_eq_true, Bool.and_eq_false_iff, decide_eq_true_eq, decide_eq_false_iff_not, beq_iff_eq, beq_eq_false_iff_ne, bne_iff_ne, bne_eq_false_iff_eq, ne_eq, not_and, Int.toNat_natCast] at *); (try simp only [Row.cells, Row.wrapped, Row.end_, Cell.kind, Cell.at] at *); (try simp (disch := omega) only [wrapId, toNatAdd, toNatSucc, isAt, reduceCtorEq, or_false, and_true, Bool.and_true, Bool.and_eq_true, Bool.and_eq_false_iff, beq_iff_eq, beq_eq_false_iff_ne, ne_eq, Int.toNat_natCast] at *)) <;> first | omega | assumption | (refine ⟨?_, ?_⟩ <;> assumption)))) (cP h1 (cP h1 (cP h1 (cP h0 nilE))))))))))))))))) (by kernel_rfl)).to (by ((try simp (disch := omega) only [wrapId, toNatAdd, toNatSucc, goesOn, Row.wrapped] at *); (try simp only [Int.toNat_natCast, beq_iff_eq, beq_eq_false_iff_ne, bne_iff_ne, bne_eq_false_iff_eq, ne_eq, Int.natCast_eq_zero, Int.natCast_inj, Row.cells] at *); first | (simp (disch := omega) [Ty.enc, stopAt, endMark, lineMarks, lineM, lineA, lineW, Row.end_, inA, inW, inM, mk, Cell.kind, Cell.at, Row.cells, wrapId, mP, isAt, toNatPred, toNatAdd, toNatSucc, goesOn, ltF, ltT, Row.wrapped, Ty.slD, *]; done) | (subst_vars; simp (disch := omega) [Ty.enc, stopAt, endMark, lineMarks, lineM, lineA, lineW, Row.end_, inA, inW, inM, mk, Cell.kind, Cell.at, Row.cells, wrapId, mP, isAt, toNatPred, toNatAdd, toNatSucc, goesOn, ltF, ltT, Row.wrapped, Ty.slD, *]; done)))
set_option maxHeartbeats 4000000 in
theorem sameExit : sameExit_T := by
  intro l m
  have h0 : (decide ((↑(List.length l) : Int) < (↑(List.length l) : Int))) = false := by (((try simp only [Bool.not_eq_true', Bool.not_eq_false', Bool.and_eq_true, Bool.and_eq_false_iff, decide_eq_true_eq, decide_eq_false_iff_not, beq_iff_eq, beq_eq_false_iff_ne, bne_iff_ne, bne_eq_false_iff_eq, ne_eq, not_and, Int.toNat_natCast] at *); (try simp only [Row.cells, Row.wrapped, Row.end_, Cell.kind, Cell.at] at *); (try simp (disch := omega) only [wrapId, toNatAdd, toNatSucc, isAt, reduceCtorEq, or_false, and_true, Bool.and_true, Bool.and_eq_true, Bool.and_eq_false_iff, beq_iff_eq, beq_eq_false_iff_ne, ne_eq, Int.toNat_natCast] at *)) <;> first | omega | assumption)
  exact pR 12 [(1, bf)] (cP h0 nilE) (by kernel_rfl)
set_option maxHeartbeats 4000000 in
theorem plRound : plRound_T := by
  intro m p i hl hi hm
  have h0 : (decide ((↑i : Int) < (↑(List.length m) : Int))) = true := by (((try simp only [Bool.not_eq_true', Bool.not_eq_false', Bool.and_eq_true, Bool.and_eq_false_iff, decide_eq_true_eq, decide_eq_false_iff_not, beq_iff_eq, beq_eq_false_iff_ne, bne_iff_ne, bne_eq_false_iff_eq, ne_eq, not_and, Int.toNat_natCast] at *); (try simp only [Row.cells, Row.wrapped, Row.end_, Cell.kind, Cell.at] at *); (try simp (disch := omega) only [wrapId, toNatAdd, toNatSucc, isAt, reduceCtorEq, or_false, and_true, Bool.and_true, Bool.and_eq_true, Bool.and_eq_false_iff, beq_iff_eq, beq_eq_false_iff_ne, ne_eq, Int.toNat_natCast] at *)) <;> first | omega | assumption)
  have h1 : (((Prod.fst (Ty.nth markT m (Int.toNat (↑i : Int)))) == (Prod.fst p)) && (((Prod.fst (Prod.snd (Ty.nth markT m (Int.toNat (↑i : Int))))) == (Prod.fst (Prod.snd p))) && true)) = false := by (((try simp only [Bool.not_eq_true', Bool.not_eq_false', Bool.and_eq_true, Bool.and_eq_false_iff, decide_eq_true_eq, decide_eq_false_iff_not, beq_iff_eq, beq_eq_false_iff_ne, bne_iff_ne, bne_eq_false_iff_eq, ne_eq, not_and, Int.toNat_natCast] at *); (try simp only [Row.cells, Row.wrapped, Row.end_, Cell.kind, Cell.at] at *); (try simp (disch := omega) only [wrapId, toNatAdd, toNatSucc, isAt, reduceCtorEq, or_false, and_true, Bool.and_true, Bool.and_eq_true, Bool.and_eq_false_iff, beq_iff_eq, beq_eq_false_iff_ne, ne_eq, Int.toNat_natCast] at *)) <;> first | omega | assumption)
  exact (pC (st' := { s := [((nat_lit 3), (V.obj (nat_lit 0) (nat_lit 0))), ((nat_lit 8), (V.d (D.sl (List.flatMap (Ty.enc markT) m) (List.length m)))), ((nat_lit 9), (V.d (D.int IntKind.i64 (↑(List.length m) : Int)))), ((nat_lit 10), (V.d (D.int IntKind.i64 (IntKind.wrap IntKind.i64 ((↑i : Int) + (1 : Int))))))], h := [(Ob.cells [(V.d (D.int IntKind.i64 (Prod.fst p))), (V.d (D.int IntKind.i64 (Prod.fst (Prod.snd p))))])], og := [] }) 12 [(1, bt), (2, .v (V.d (D.ref (List.flatMap (Ty.enc markT) m) ((Int.toNat (↑i : Int)) * (4 : Nat))))), (3, .v (V.d (D.agg (Ty.enc markT (Ty.nth markT m (Int.toNat (↑i : Int))))))), (7, bf)] (cP h1 (cP (@loadRMark (m) ([(Ob.cells [(V.d (D.int IntKind.i64 (Prod.fst p))), (V.d (D.int IntKind.i64 (Prod.fst (Prod.snd p))))])]) (Int.toNat (↑i : Int)) (by (((try simp only [Bool.not_eq_true', Bool.not_eq_false', Bool.and_eq_true, Bool.and_eq_false_iff, decide_eq_true_eq, decide_eq_false_iff_not, beq_iff_eq, beq_eq_false_iff_ne, bne_iff_ne, bne_eq_false_iff_eq, ne_eq, not_and, Int.toNat_natCast] at *); (try simp only [Row.cells, Row.wrapped, Row.end_, Cell.kind, Cell.at] at *); (try simp (disch := omega) only [wrapId, toNatAdd, toNatSucc, isAt, reduceCtorEq, or_false, and_true, Bool.and_true, Bool.and_eq_true, Bool.and_eq_false_iff, beq_iff_eq, beq_eq_false_iff_ne, ne_eq, Int.toNat_natCast] at *)) <;> first | omega | assumption))) (cP (@iaddrRMark (m) ((↑i : Int)) (by (((try simp only [Bool.not_eq_true', Bool.not_eq_false', Bool.and_eq_true, Bool.and_eq_false_iff, decide_eq_true_eq, decide_eq_false_iff_not, beq_iff_eq, beq_eq_false_iff_ne, bne_iff_ne, bne_eq_false_iff_eq, ne_eq, not_and, Int.toNat_natCast] at *); (try simp only [Row.cells, Row.wrapped, Row.end_, Cell.kind, Cell.at] at *); (try simp (disch := omega) only [wrapId, toNatAdd, toNatSucc, isAt, reduceCtorEq, or_false, and_true, Bool.and_true, Bool.and_eq_true, Bool.and_eq_false_iff, beq_iff_eq, beq_eq_false_iff_ne, ne_eq, Int.toNat_natCast] at *)) <;> first | omega | assumption)) (by (((try simp only [Bool.not_eq_true', Bool.not_eq_false', Bool.and_eq_true, Bool.and_eq_false_iff, decide_eq_true_eq, decide_eq_false_iff_not, beq_iff_eq, beq_eq_false_iff_ne, bne_iff_ne, bne_eq_false_iff_eq, ne_eq, not_and, Int.toNat_natCast] at *); (try simp only [Row.cells, Row.wrapped, Row.end_, Cell.kind, Cell.at] at *); (try simp (disch := omega) only [wrapId, toNatAdd, toNatSucc, isAt, reduceCtorEq, or_false, and_true, Bool.and_true, Bool.and_eq_true, Bool.and_eq_false_iff, beq_iff_eq, beq_eq_false_iff_ne, ne_eq, Int.toNat_natCast] at *)) <;> first | omega | assumption))) (cP h0 nilE)))) (by kernel_rfl)).to (by ((try simp (disch := omega) only [wrapId, toNatAdd, toNatSucc, goesOn, Row.wrapped] at *); (try simp only [Int.toNat_natCast, beq_iff_eq, beq_eq_false_iff_ne, bne_iff_ne, bne_eq_false_iff_eq, ne_eq, Int.natCast_eq_zero, Int.natCast_inj, Row.cells] at *); first | (simp (disch := omega) [Ty.enc, stopAt, endMark, lineMarks, lineM, lineA, lineW, Row.end_, inA, inW, inM, mk, Cell.kind, Cell.at, Row.cells, wrapId, mP, isAt, toNatPred, toNatAdd, toNatSucc, goesOn, ltF, ltT, Row.wrapped, Ty.slD, *]; done) | (subst_vars; simp (disch := omega) [Ty.enc, stopAt, endMark, lineMarks, lineM, lineA, lineW, Row.end_, inA, inW, inM, mk, Cell.kind, Cell.at, Row.cells, wrapId, mP, isAt, toNatPred, toNatAdd, toNatSucc, goesOn, ltF, ltT, Row.wrapped, Ty.slD, *]; done)))
set_option maxHeartbeats 4000000 in
theorem plHit : plHit_T := by
  intro m p i hl hi hm
  have h0 : (decide ((↑i : Int) < (↑(List.length m) : Int))) = true := by (((try simp only [Bool.not_eq_true', Bool.not_eq_false', Bool.and_eq_true, Bool.and_eq_false_iff, decide_eq_true_eq, decide_eq_false_iff_not, beq_iff_eq, beq_eq_false_iff_ne, bne_iff_ne, bne_eq_false_iff_eq, ne_eq, not_and, Int.toNat_natCast] at *); (try simp only [Row.cells, Row.wrapped, Row.end_, Cell.kind, Cell.at] at *); (try simp (disch := omega) only [wrapId, toNatAdd, toNatSucc, isAt, reduceCtorEq, or_false, and_true, Bool.and_true, Bool.and_eq_true, Bool.and_eq_false_iff, beq_iff_eq, beq_eq_false_iff_ne, ne_eq, Int.toNat_natCast] at *)) <;> first | omega | assumption)
  have h1 : (((Prod.fst (Ty.nth markT m (Int.toNat (↑i : Int)))) == (Prod.fst p)) && (((Prod.fst (Prod.snd (Ty.nth markT m (Int.toNat (↑i : Int))))) == (Prod.fst (Prod.snd p))) && true)) = true := by (((try simp only [Bool.not_eq_true', Bool.not_eq_false', Bool.and_eq_true, Bool.and_eq_false_iff, decide_eq_true_eq, decide_eq_false_iff_not, beq_iff_eq, beq_eq_false_iff_ne, bne_iff_ne, bne_eq_false_iff_eq, ne_eq, not_and, Int.toNat_natCast] at *); (try simp only [Row.cells, Row.wrapped, Row.end_, Cell.kind, Cell.at] at *); (try simp (disch := omega) only [wrapId, toNatAdd, toNatSucc, isAt, reduceCtorEq, or_false, and_true, Bool.and_true, Bool.and_eq_true, Bool.and_eq_false_iff, beq_iff_eq, beq_eq_false_iff_ne, ne_eq, Int.toNat_natCast] at *)) <;> first | omega | assumption)
  exact pR 12 [(1, bt), (2, .v (V.d (D.ref (List.flatMap (Ty.enc markT) m) ((Int.toNat (↑i : Int)) * (4 : Nat))))), (3, .v (V.d (D.agg (Ty.enc markT (Ty.nth markT m (Int.toNat (↑i : Int))))))), (7, bt)] (cP h1 (cP (@loadRMark (m) ([(Ob.cells [(V.d (D.int IntKind.i64 (Prod.fst p))), (V.d (D.int IntKind.i64 (Prod.fst (Prod.snd p))))])]) (Int.toNat (↑i : Int)) (by (((try simp only [Bool.not_eq_true', Bool.not_eq_false', Bool.and_eq_true, Bool.and_eq_false_iff, decide_eq_true_eq, decide_eq_false_iff_not, beq_iff_eq, beq_eq_false_iff_ne, bne_iff_ne, bne_eq_false_iff_eq, ne_eq, not_and, Int.toNat_natCast] at *); (try simp only [Row.cells, Row.wrapped, Row.end_, Cell.kind, Cell.at] at *); (try simp (disch := omega) only [wrapId, toNatAdd, toNatSucc, isAt, reduceCtorEq, or_false, and_true, Bool.and_true, Bool.and_eq_true, Bool.and_eq_false_iff, beq_iff_eq, beq_eq_false_iff_ne, ne_eq, Int.toNat_natCast] at *)) <;> first | omega | assumption))) (cP (@iaddrRMark (m) ((↑i : Int)) (by (((try simp only [Bool.not_eq_true', Bool.not_eq_false', Bool.and_eq_true, Bool.and_eq_false_iff, decide_eq_true_eq, decide_eq_false_iff_not, beq_iff_eq, beq_eq_false_iff_ne, bne_iff_ne, bne_eq_false_iff_eq, ne_eq, not_and, Int.toNat_natCast] at *); (try simp only [Row.cells, Row.wrapped, Row.end_, Cell.kind, Cell.at] at *); (try simp (disch := omega) only [wrapId, toNatAdd, toNatSucc, isAt, reduceCtorEq, or_false, and_true, Bool.and_true, Bool.and_eq_true, Bool.and_eq_false_iff, beq_iff_eq, beq_eq_false_iff_ne, ne_eq, Int.toNat_natCast] at *)) <;> first | omega | assumption)) (by (((try simp only [Bool.not_eq_true', Bool.not_eq_false', Bool.and_eq_true, Bool.and_eq_false_iff, decide_eq_true_eq, decide_eq_false_iff_not, beq_iff_eq, beq_eq_false_iff_ne, bne_iff_ne, bne_eq_false_iff_eq, ne_eq, not_and, Int.toNat_natCast] at *); (try simp only [Row.cells, Row.wrapped, Row.end_, Cell.kind, Cell.at] at *); (try simp (disch := omega) only [wrapId, toNatAdd, toNatSucc, isAt, reduceCtorEq, or_false, and_true, Bool.and_true, Bool.and_eq_true, Bool.and_eq_false_iff, beq_iff_eq, beq_eq_false_iff_ne, ne_eq, Int.toNat_natCast] at *)) <;> first | omega | assumption))) (cP h0 nilE)))) (by kernel_rfl)
set_option maxHeartbeats 4000000 in
theorem inRound : inRound_T := by
  intro rows p m n e b i hm hi
  have h0 : (decide ((↑i : Int) < (↑(List.length m) : Int))) = true := by (((try simp only [Bool.not_eq_true', Bool.not_eq_false', Bool.and_eq_true, Bool.and_eq_false_iff, decide_eq_true_eq, decide_eq_false_iff_not, beq_iff_eq, beq_eq_false_iff_ne, bne_iff_ne, bne_eq_false_iff_eq, ne_eq, not_and, Int.toNat_natCast] at *); (try simp only [Row.cells, Row.wrapped, Row.end_, Cell.kind, Cell.at] at *); (try simp (disch := omega) only [wrapId, toNatAdd, toNatSucc, isAt, reduceCtorEq, or_false, and_true, Bool.and_true, Bool.and_eq_true, Bool.and_eq_false_iff, beq_iff_eq, beq_eq_false_iff_ne, ne_eq, Int.toNat_natCast] at *)) <;> first | omega | assumption)
  rcases Bool.eq_false_or_eq_true (b) with h1 | h1
  · exact (pC (st' := { s := [((nat_lit 0), (V.d (D.sl (List.flatMap (Ty.enc rowT) rows) (List.length rows)))), ((nat_lit 3), (V.obj (nat_lit 0) (nat_lit 0))), ((nat_lit 5), (V.d (D.sl (List.flatMap (Ty.enc markT) m) (List.length m)))), ((nat_lit 6), (V.d (D.int IntKind.i64 n))), ((nat_lit 7), (V.d (D.int IntKind.i64 e))), ((nat_lit 8), (V.d (D.bool true))), ((nat_lit 22), (V.d (D.sl (List.flatMap (Ty.enc markT) m) (List.length m)))), ((nat_lit 23), (V.d (D.int IntKind.i64 (↑(List.length m) : Int)))), ((nat_lit 24), (V.d (D.int IntKind.i64 (IntKind.wrap IntKind.i64 ((↑i : Int) + (1 : Int))))))], h := [(Ob.cells [(V.d (D.int IntKind.i64 (Prod.fst p))), (V.d (D.int IntKind.i64 (Prod.fst (Prod.snd p))))])], og := [] }) 12 [(1, bt), (2, .v (V.d (D.ref (List.flatMap (Ty.enc markT) m) ((Int.toNat (↑i : Int)) * (4 : Nat))))), (3, .v (V.d (D.agg (Ty.enc markT (Ty.nth markT m (Int.toNat (↑i : Int))))))), (4, bt), (5, bt), (6, bt), (7, bt), (8, bt)] (cP h1 (cP h1 (cP h1 (cP h1 (cP h1 (cP (@loadRMark (m) ([(Ob.cells [(V.d (D.int IntKind.i64 (Prod.fst p))), (V.d (D.int IntKind.i64 (Prod.fst (Prod.snd p))))])]) (Int.toNat (↑i : Int)) (by (((try simp only [Bool.not_eq_true', Bool.not_eq_false', Bool.and_eq_true, Bool.and_eq_false_iff, decide_eq_true_eq, decide_eq_false_iff_not, beq_iff_eq, beq_eq_false_iff_ne, bne_iff_ne, bne_eq_false_iff_eq, ne_eq, not_and, Int.toNat_natCast] at *); (try simp only [Row.cells, Row.wrapped, Row.end_, Cell.kind, Cell.at] at *); (try simp (disch := omega) only [wrapId, toNatAdd, toNatSucc, isAt, reduceCtorEq, or_false, and_true, Bool.and_true, Bool.and_eq_true, Bool.and_eq_false_iff, beq_iff_eq, beq_eq_false_iff_ne, ne_eq, Int.toNat_natCast] at *)) <;> first | omega | assumption))) (cP (@iaddrRMark (m) ((↑i : Int)) (by (((try simp only [Bool.not_eq_true', Bool.not_eq_false', Bool.and_eq_true, Bool.and_eq_false_iff, decide_eq_true_eq, decide_eq_false_iff_not, beq_iff_eq, beq_eq_false_iff_ne, bne_iff_ne, bne_eq_false_iff_eq, ne_eq, not_and, Int.toNat_natCast] at *); (try simp only [Row.cells, Row.wrapped, Row.end_, Cell.kind, Cell.at] at *); (try simp (disch := omega) only [wrapId, toNatAdd, toNatSucc, isAt, reduceCtorEq, or_false, and_true, Bool.and_true, Bool.and_eq_true, Bool.and_eq_false_iff, beq_iff_eq, beq_eq_false_iff_ne, ne_eq, Int.toNat_natCast] at *)) <;> first | omega | assumption)) (by (((try simp only [Bool.not_eq_true', Bool.not_eq_false', Bool.and_eq_true, Bool.and_eq_false_iff, decide_eq_true_eq, decide_eq_false_iff_not, beq_iff_eq, beq_eq_false_iff_ne, bne_iff_ne, bne_eq_false_iff_eq, ne_eq, not_and, Int.toNat_natCast] at *); (try simp only [Row.cells, Row.wrapped, Row.end_, Cell.kind, Cell.at] at *); (try simp (disch := omega) only [wrapId, toNatAdd, toNatSucc, isAt, reduceCtorEq, or_false, and_true, Bool.and_true, Bool.and_eq_true, Bool.and_eq_false_iff, beq_iff_eq, beq_eq_false_iff_ne, ne_eq, Int.toNat_natCast] at *)) <;> first | omega | assumption))) (cP h0 nilE)))))))) (by kernel_rfl)).to (by ((try simp (disch := omega) only [wrapId, toNatAdd, toNatSucc, goesOn, Row.wrapped] at *); (try simp only [Int.toNat_natCast, beq_iff_eq, beq_eq_false_iff_ne, bne_iff_ne, bne_eq_false_iff_eq, ne_eq, Int.natCast_eq_zero, Int.natCast_inj, Row.cells] at *); first | (simp (disch := omega) [Ty.enc, stopAt, endMark, lineMarks, lineM, lineA, lineW, Row.end_, inA, inW, inM, mk, Cell.kind, Cell.at, Row.cells, wrapId, mP, isAt, toNatPred, toNatAdd, toNatSucc, goesOn, ltF, ltT, Row.wrapped, Ty.slD, *]; done) | (subst_vars; simp (disch := omega) [Ty.enc, stopAt, endMark, lineMarks, lineM, lineA, lineW, Row.end_, inA, inW, inM, mk, Cell.kind, Cell.at, Row.cells, wrapId, mP, isAt, toNatPred, toNatAdd, toNatSucc, goesOn, ltF, ltT, Row.wrapped, Ty.slD, *]; done)))
  · exact (pC (st' := { s := [((nat_lit 0), (V.d (D.sl (List.flatMap (Ty.enc rowT) rows) (List.length rows)))), ((nat_lit 3), (V.obj (nat_lit 0) (nat_lit 0))), ((nat_lit 5), (V.d (D.sl (List.flatMap (Ty.enc markT) m) (List.length m)))), ((nat_lit 6), (V.d (D.int IntKind.i64 n))), ((nat_lit 7), (V.d (D.int IntKind.i64 e))), ((nat_lit 8), (V.d (D.bool (((Prod.fst (Ty.nth markT m (Int.toNat (↑i : Int)))) == (Prod.fst p)) && (((Prod.fst (Prod.snd (Ty.nth markT m (Int.toNat (↑i : Int))))) == (Prod.fst (Prod.snd p))) && true))))), ((nat_lit 22), (V.d (D.sl (List.flatMap (Ty.enc markT) m) (List.length m)))), ((nat_lit 23), (V.d (D.int IntKind.i64 (↑(List.length m) : Int)))), ((nat_lit 24), (V.d (D.int IntKind.i64 (IntKind.wrap IntKind.i64 ((↑i : Int) + (1 : Int))))))], h := [(Ob.cells [(V.d (D.int IntKind.i64 (Prod.fst p))), (V.d (D.int IntKind.i64 (Prod.fst (Prod.snd p))))])], og := [] }) 12 [(1, bt), (2, .v (V.d (D.ref (List.flatMap (Ty.enc markT) m) ((Int.toNat (↑i : Int)) * (4 : Nat))))), (3, .v (V.d (D.agg (Ty.enc markT (Ty.nth markT m (Int.toNat (↑i : Int))))))), (4, bf), (5, bf), (7, bf), (9, bf), (11, bf)] (cP h1 (cP h1 (cP h1 (cP h1 (cP h1 (cP (@loadRMark (m) ([(Ob.cells [(V.d (D.int IntKind.i64 (Prod.fst p))), (V.d (D.int IntKind.i64 (Prod.fst (Prod.snd p))))])]) (Int.toNat (↑i : Int)) (by (((try simp only [Bool.not_eq_true', Bool.not_eq_false', Bool.and_eq_true, Bool.and_eq_false_iff, decide_eq_true_eq, decide_eq_false_iff_not, beq_iff_eq, beq_eq_false_iff_ne, bne_iff_ne, bne_eq_false_iff_eq, ne_eq, not_and, Int.toNat_natCast] at *); (try simp only [Row.cells, Row.wrapped, Row.end_, Cell.kind, Cell.at] at *); (try simp (disch := omega) only [wrapId, toNatAdd, toNatSucc, isAt, reduceCtorEq, or_false, and_true, Bool.and_true, Bool.and_eq_true, Bool.and_eq_false_iff, beq_iff_eq, beq_eq_false_iff_ne, ne_eq, Int.toNat_natCast] at *)) <;> first | omega | assumption))) (cP (@iaddrRMark (m) ((↑i : Int)) (by (((try simp only [Bool.not_eq_true', Bool.not_eq_false', Bool.and_eq_true, Bool.and_eq_false_iff, decide_eq_true_eq, decide_eq_false_iff_not, beq_iff_eq, beq_eq_false_iff_ne, bne_iff_ne, bne_eq_false_iff_eq, ne_eq, not_and, Int.toNat_natCast] at *); (try simp only [Row.cells, Row.wrapped, Row.end_, Cell.kind, Cell.at] at *); (try simp (disch := omega) only [wrapId, toNatAdd, toNatSucc, isAt, reduceCtorEq, or_false, and_true, Bool.and_true, Bool.and_eq_true, Bool.and_eq_false_iff, beq_iff_eq, beq_eq_false_iff_ne, ne_eq, Int.toNat_natCast] at *)) <;> first | omega | assumption)) (by (((try simp only [Bool.not_eq_true', Bool.not_eq_false', Bool.and_eq_true, Bool.and_eq_false_iff, decide_eq_true_eq, decide_eq_false_iff_not, beq_iff_eq, beq_eq_false_iff_ne, bne_iff_ne, bne_eq_false_iff_eq, ne_eq, not_and, Int.toNat_natCast] at *); (try simp only [Row.cells, Row.wrapped, Row.end_, Cell.kind, Cell.at] at *); (try simp (disch := omega) only [wrapId, toNatAdd, toNatSucc, isAt, reduceCtorEq, or_false, and_true, Bool.and_true, Bool.and_eq_true, Bool.and_eq_false_iff, beq_iff_eq, beq_eq_false_iff_ne, ne_eq, Int.toNat_natCast] at *)) <;> first | omega | assumption))) (cP h0 nilE)))))))) (by kernel_rfl)).to (by ((try simp (disch := omega) only [wrapId, toNatAdd, toNatSucc, goesOn, Row.wrapped] at *); (try simp only [Int.toNat_natCast, beq_iff_eq, beq_eq_false_iff_ne, bne_iff_ne, bne_eq_false_iff_eq, ne_eq, Int.natCast_eq_zero, Int.natCast_inj, Row.cells] at *); first | (simp (disch := omega) [Ty.enc, stopAt, endMark, lineMarks, lineM, lineA, lineW, Row.end_, inA, inW, inM, mk, Cell.kind, Cell.at, Row.cells, wrapId, mP, isAt, toNatPred, toNatAdd, toNatSucc, goesOn, ltF, ltT, Row.wrapped, Ty.slD, *]; done) | (subst_vars; simp (disch := omega) [Ty.enc, stopAt, endMark, lineMarks, lineM, lineA, lineW, Row.end_, inA, inW, inM, mk, Cell.kind, Cell.at, Row.cells, wrapId, mP, isAt, toNatPred, toNatAdd, toNatSucc, goesOn, ltF, ltT, Row.wrapped, Ty.slD, *]; done)))
set_option maxHeartbeats 4000000 in
theorem inExit : inExit_T := by
  intro rows p m n e b
  have h0 : (decide ((↑(List.length m) : Int) < (↑(List.length m) : Int))) = false := by (((try simp only [Bool.not_eq_true', Bool.not_eq_false', Bool.and_eq_true, Bool.and_eq_false_iff, decide_eq_true_eq, decide_eq_false_iff_not, beq_iff_eq, beq_eq_false_iff_ne, bne_iff_ne, bne_eq_false_iff_eq, ne_eq, not_and, Int.toNat_natCast] at *); (try simp only [Row.cells, Row.wrapped, Row.end_, Cell.kind, Cell.at] at *); (try simp (disch := omega) only [wrapId, toNatAdd, toNatSucc, isAt, reduceCtorEq, or_false, and_true, Bool.and_true, Bool.and_eq_true, Bool.and_eq_false_iff, beq_iff_eq, beq_eq_false_iff_ne, ne_eq, Int.toNat_natCast] at *)) <;> first | omega | assumption)
  exact pR 12 [(1, bf)] (cP h0 nilE) (by kernel_rfl)
end Go.Proofs.Ytaobccodpdmieaa.Points
/- Points: the plain law: all marks are the reference's marks. -/
set_option linter.unusedVariables false
set_option linter.unusedSimpArgs false
namespace Go.Proofs.Ytaobccodpdmieaa.Points
open Go Pv G
def refStep (rows : List Row) (M : List Mark) (i : Nat) : List Mark := if i + 1 = rows.length ∨ Row.wrapped (rowT.nth rows (i + 1)) = false then rowMarks rows M i ++ [endMark rows i] else rowMarks rows M i
def refFold (rows : List Row) : Nat → List Mark
  | 0 => []
  | i + 1 => refStep rows (refFold rows i) i
def refMarks (rows : List Row) : List Mark := refFold rows rows.length

theorem nth_pre {e : Ty} {X A : List e.ty} {c : e.ty} (h : X ++ [c] <+: A) : e.nth A X.length = c := by
  obtain ⟨t, rfl⟩ := h
  simp [Ty.nth, List.getD_eq_getElem?_getD]
theorem inAto_pre1 (A cells : List Cell) (c : Nat) : inAto A cells c <+: inAto A cells (c + 1) := by
  simp only [inAto, inA]
  split
  · exact List.prefix_rfl
  · exact List.prefix_append _ _
theorem inAto_pre (A cells : List Cell) (c d : Nat) (h : c ≤ d) : inAto A cells c <+: inAto A cells d := by
  obtain ⟨d, rfl⟩ := Nat.exists_eq_add_of_le h
  clear h
  induction d with
  | zero => exact List.prefix_rfl
  | succ d ih => exact ih.trans (inAto_pre1 A cells (c + d))
theorem inWto_pre1 (row : Int) (A : List Point) (cells : List Cell) (c : Nat) : inWto row A cells c <+: inWto row A cells (c + 1) := by
  simp only [inWto, inW]
  split
  · exact List.prefix_rfl
  · exact List.prefix_append _ _
theorem inWto_pre (row : Int) (A : List Point) (cells : List Cell) (c d : Nat) (h : c ≤ d) : inWto row A cells c <+: inWto row A cells d := by
  obtain ⟨d, rfl⟩ := Nat.exists_eq_add_of_le h
  clear h
  induction d with
  | zero => exact List.prefix_rfl
  | succ d ih => exact ih.trans (inWto_pre1 row A cells (c + d))
theorem allTo_pre (P : List Row) (m n : Nat) (h : m ≤ n) : allTo P m <+: allTo P n := by
  obtain ⟨d, rfl⟩ := Nat.exists_eq_add_of_le h
  clear h
  induction d with
  | zero => exact List.prefix_rfl
  | succ d ih => exact ih.trans (inAto_pre (allTo P (m + d)) (Row.cells (rowT.nth P (m + d))) 0 _ (Nat.zero_le _))
theorem whTo_pre (P : List Row) (first : Int) (m n : Nat) (h : m ≤ n) : whTo P first m <+: whTo P first n := by
  obtain ⟨d, rfl⟩ := Nat.exists_eq_add_of_le h
  clear h
  induction d with
  | zero => exact List.prefix_rfl
  | succ d ih => exact ih.trans (inWto_pre (first + (m + d : Nat)) (whTo P first (m + d)) (Row.cells (rowT.nth P (m + d))) 0 _ (Nat.zero_le _))
theorem inWto_cnt (row : Int) (W : List Point) (cells : List Cell) : ∀ c, (inWto row W cells c).length = W.length + cntTo cells c
  | 0 => rfl
  | c + 1 => by
    have := inWto_cnt row W cells c
    simp only [inWto, inW, cntTo]
    split
    · exact this
    · rw [List.length_append, this]; rfl
theorem whTo_allTo (P : List Row) (first : Int) : ∀ t, (whTo P first t).length = (allTo P t).length
  | 0 => rfl
  | t + 1 => by
    simp only [whTo, allTo]
    unfold rowW rowA
    rw [inWto_cnt, inAto_cnt, whTo_allTo P first t]
theorem stops_nth (A : List Cell) (k : Nat) (h : k < A.length) : boolT.nth (stopsTo A A.length) k = stopAt A k := by
  simp [Ty.nth, stopsTo, List.getD_eq_getElem?_getD, h]

theorem row_law (P : List Row) (i0 t : Nat) (ht : t < P.length) (M : List Mark) : ∀ col, col ≤ (Row.cells (rowT.nth P t)).length →
    M ++ mTo (allTo P P.length) (whTo P i0 P.length) (stopsTo (allTo P P.length) (allTo P P.length).length) ((allTo P t).length + cntTo (Row.cells (rowT.nth P t)) col) =
      rmM (i0 + t) (allTo P P.length) (rowT.nth P t) (allTo P t).length (M ++ mTo (allTo P P.length) (whTo P i0 P.length) (stopsTo (allTo P P.length) (allTo P P.length).length) (allTo P t).length) col
  | 0, _ => by simp [cntTo, rmM]
  | col + 1, hc => by
    have ih := row_law P i0 t ht M col (by omega)
    simp only [cntTo, rmM]
    by_cases hk : (Cell.kind (cellT.nth (Row.cells (rowT.nth P t)) col) == 5) = true
    · rw [if_pos hk, if_pos hk]; exact ih
    · rw [if_neg hk, if_neg hk]
      have e1 : inAto (allTo P t) (Row.cells (rowT.nth P t)) (col + 1) = inAto (allTo P t) (Row.cells (rowT.nth P t)) col ++ [cellT.nth (Row.cells (rowT.nth P t)) col] := by
        simp only [inAto, inA]; rw [if_neg hk]
      have e2 : inWto ((i0 : Int) + t) (whTo P i0 t) (Row.cells (rowT.nth P t)) (col + 1) = inWto ((i0 : Int) + t) (whTo P i0 t) (Row.cells (rowT.nth P t)) col ++ [((i0 : Int) + t, (col : Int), ())] := by
        simp only [inWto, inW]; rw [if_neg hk]
      have p1 : inAto (allTo P t) (Row.cells (rowT.nth P t)) col ++ [cellT.nth (Row.cells (rowT.nth P t)) col] <+: allTo P P.length := by
        rw [← e1]
        exact (inAto_pre (allTo P t) _ (col + 1) _ hc).trans (allTo_pre P (t + 1) P.length ht)
      have p2 : inWto ((i0 : Int) + t) (whTo P i0 t) (Row.cells (rowT.nth P t)) col ++ [((i0 : Int) + t, (col : Int), ())] <+: whTo P i0 P.length := by
        rw [← e2]
        exact (inWto_pre _ (whTo P i0 t) _ (col + 1) _ hc).trans (whTo_pre P i0 (t + 1) P.length ht)
      have n1 := nth_pre (e := cellT) p1
      have n2 := nth_pre (e := pointT) p2
      have l1 := p1.length_le
      rw [List.length_append] at l1
      rw [inAto_cnt] at n1 l1
      rw [inWto_cnt, whTo_allTo] at n2
      have l1' : (allTo P t).length + cntTo (Row.cells (rowT.nth P t)) col < (allTo P P.length).length := by have := l1; simp at this; omega
      have s1 := stops_nth (allTo P P.length) _ l1'
      have hm : mk (allTo P P.length) (whTo P i0 P.length) ((allTo P t).length + cntTo (Row.cells (rowT.nth P t)) col) = cm (rowT.nth P t) (i0 + t) col := by
        unfold mk cm
        rw [n1, n2]
        simp [Cell.kind, Cell.at]
      rw [← Nat.add_assoc]
      simp only [mTo, inM]
      rw [s1, hm, ← ih]
      split
      · rw [List.append_assoc]
      · rfl

theorem part_nth (rows : List Row) (i t : Nat) (ht : t < runN rows i) : rowT.nth (part rows i) t = rowT.nth rows (i + t) := by
  simp only [Ty.nth, part, List.getD_eq_getElem?_getD, List.getElem?_drop, List.getElem?_take]
  rw [if_pos (by omega)]
theorem allTo_part (rows : List Row) (i : Nat) : ∀ t, t ≤ runN rows i → allTo (part rows i) t = allF rows i t
  | 0, _ => rfl
  | t + 1, h => by simp only [allTo, allF]; rw [allTo_part rows i t (by omega), part_nth rows i t (by omega)]

/-- Does a line begin there? -/
def LS (rows : List Row) (i : Nat) : Prop := i = 0 ∨ Row.wrapped (rowT.nth rows i) = false
theorem runN_get (rows : List Row) (i t : Nat) (h1 : 1 ≤ t) (h2 : t < runN rows i) : i + t < rows.length ∧ Row.wrapped (rowT.nth rows (i + t)) = true := by
  have := runFrom_get rows i rows.length 1 t h1 h2
  simpa [goesOn] using this
theorem runFrom_stop (rows : List Row) (i : Nat) : ∀ f n, rows.length ≤ i + n + f → goesOn rows i (runFrom rows i f n) = false
  | 0, n, h => by show goesOn rows i n = false; unfold goesOn; rw [decide_eq_false (by omega), Bool.false_and]
  | f + 1, n, h => by
    simp only [runFrom]
    split
    · exact runFrom_stop rows i f (n + 1) (by omega)
    · rename_i hg; simpa using hg
theorem runN_stop (rows : List Row) (i : Nat) : i + runN rows i < rows.length → Row.wrapped (rowT.nth rows (i + runN rows i)) = false := by
  intro h
  have := runFrom_stop rows i rows.length 1 (by omega)
  unfold runN at h ⊢
  simpa [goesOn, h] using this
theorem backTo_start (rows : List Row) (i : Nat) (hL : LS rows i) : ∀ t, t < runN rows i → backTo rows (i + t) = i
  | 0, _ => by
    rcases hL with rfl | hw
    · rfl
    · cases i with
      | zero => rfl
      | succ i => show backTo rows (i + 1) = i + 1; simp only [backTo]; rw [if_neg (by simp [hw])]
  | t + 1, h => by
    have := runN_get rows i (t + 1) (by omega) h
    show (if Row.wrapped (rowT.nth rows (i + t + 1)) = true then backTo rows (i + t) else i + t + 1) = i
    rw [if_pos (by simpa [Nat.add_assoc] using this.2), backTo_start rows i hL t (by omega)]

theorem lines_law (rows : List Row) (i : Nat) (hi : i < rows.length) (hL : LS rows i) : ∀ t, t < runN rows i →
    refFold rows (i + t) = refFold rows i ++ mTo (allTo (part rows i) (part rows i).length) (whTo (part rows i) i (part rows i).length) (stopsTo (allTo (part rows i) (part rows i).length) (allTo (part rows i) (part rows i).length).length) (allTo (part rows i) t).length ∧
    rowMarks rows (refFold rows (i + t)) (i + t) = refFold rows i ++ mTo (allTo (part rows i) (part rows i).length) (whTo (part rows i) i (part rows i).length) (stopsTo (allTo (part rows i) (part rows i).length) (allTo (part rows i) (part rows i).length).length) (allTo (part rows i) (t + 1)).length := by
  have hpl := part_len rows i hi
  have key : ∀ t, t < runN rows i → refFold rows (i + t) = refFold rows i ++ mTo (allTo (part rows i) (part rows i).length) (whTo (part rows i) i (part rows i).length) (stopsTo (allTo (part rows i) (part rows i).length) (allTo (part rows i) (part rows i).length).length) (allTo (part rows i) t).length →
      rowMarks rows (refFold rows (i + t)) (i + t) = refFold rows i ++ mTo (allTo (part rows i) (part rows i).length) (whTo (part rows i) i (part rows i).length) (stopsTo (allTo (part rows i) (part rows i).length) (allTo (part rows i) (part rows i).length).length) (allTo (part rows i) (t + 1)).length := by
    intro t ht hM
    have hb := backTo_start rows i hL t ht
    have hlo : lineOf rows (i + t) = allTo (part rows i) (part rows i).length := by
      unfold lineOf; rw [hb, hpl, allTo_part rows i _ (Nat.le_refl _)]
    have hah : aheadOf rows (i + t) = (allTo (part rows i) t).length := by
      unfold aheadOf ahF; rw [hb, if_pos (by omega), allTo_part rows i t (by omega)]; congr 2; omega
    have h1 := row_law (part rows i) i t (by omega) (refFold rows i) (Row.cells (rowT.nth (part rows i) t)).length (Nat.le_refl _)
    have h2 : (allTo (part rows i) (t + 1)).length = (allTo (part rows i) t).length + cntTo (Row.cells (rowT.nth (part rows i) t)) (Row.cells (rowT.nth (part rows i) t)).length := by
      simp only [allTo]; unfold rowA; rw [inAto_cnt]
    unfold rowMarks
    rw [h2, h1, hlo, hah, hM, part_nth rows i t ht]
  intro t
  induction t with
  | zero =>
    intro h
    have h0 : refFold rows (i + 0) = refFold rows i ++ mTo (allTo (part rows i) (part rows i).length) (whTo (part rows i) i (part rows i).length) (stopsTo (allTo (part rows i) (part rows i).length) (allTo (part rows i) (part rows i).length).length) (allTo (part rows i) 0).length := by simp [allTo, mTo]
    exact ⟨h0, key 0 h h0⟩
  | succ t ih =>
    intro h
    have h1 := (ih (by omega)).2
    have hg := runN_get rows i (t + 1) (by omega) h
    have h2 : refFold rows (i + (t + 1)) = refFold rows i ++ mTo (allTo (part rows i) (part rows i).length) (whTo (part rows i) i (part rows i).length) (stopsTo (allTo (part rows i) (part rows i).length) (allTo (part rows i) (part rows i).length).length) (allTo (part rows i) (t + 1)).length := by
      rw [← h1]
      show refStep rows (refFold rows (i + t)) (i + t) = _
      unfold refStep
      rw [if_neg]
      rintro (h3 | h3)
      · omega
      · rw [show i + t + 1 = i + (t + 1) by omega, hg.2] at h3; cases h3
    exact ⟨h2, key (t + 1) h h2⟩

theorem line_law (rows : List Row) (i : Nat) (hi : i < rows.length) (hL : LS rows i) : refFold rows (i + runN rows i) = refFold rows i ++ lineMarks (part rows i) i := by
  have hpl := part_len rows i hi
  have h5 := runFrom_le rows i rows.length 1 (by omega)
  have h8 : runN rows i = runFrom rows i rows.length 1 := rfl
  obtain ⟨n, hn⟩ : ∃ n, runN rows i = n + 1 := ⟨runN rows i - 1, by omega⟩
  have h1 := (lines_law rows i hi hL n (by omega)).2
  have hs := runN_stop rows i
  rw [hn] at hs ⊢
  show refStep rows (refFold rows (i + n)) (i + n) = _
  unfold refStep
  rw [if_pos, h1]
  · unfold lineMarks lineM lineA lineW
    rw [stopsTo_length, hpl, hn]
    rw [List.append_assoc]
    congr 2
    show [endMark rows (i + n)] = _
    unfold endMark
    have e : rowT.nth (part rows i) (n + 1 - 1) = rowT.nth rows (i + n) := part_nth rows i n (by omega)
    rw [e, show ((i : Int) + ((n + 1 : Nat) : Int) - 1) = ((i + n : Nat) : Int) by omega]
  · by_cases h : i + n + 1 = rows.length
    · exact .inl h
    · exact .inr (hs (by omega))

theorem marks_law (rows : List Row) : ∀ f i, rows.length ≤ i + f → i ≤ rows.length → LS rows i → marksFrom rows f i (refFold rows i) = refFold rows rows.length := by
  intro f
  induction f with
  | zero =>
    intro i h1 h2 _
    obtain rfl : i = rows.length := by omega
    rfl
  | succ f ih =>
    intro i h1 h2 hL
    simp only [marksFrom]
    by_cases hi : i < rows.length
    · rw [if_pos hi, ← line_law rows i hi hL]
      have h5 := runFrom_le rows i rows.length 1 (by omega)
      have h8 : runN rows i = runFrom rows i rows.length 1 := rfl
      refine ih _ (by omega) (by omega) ?_
      by_cases hl : i + runN rows i < rows.length
      · exact .inr (runN_stop rows i hl)
      · refine .inr ?_
        have : rowT.nth rows (i + runN rows i) = rowT.dflt := by
          simp only [Ty.nth, List.getD_eq_getElem?_getD]
          rw [List.getElem?_eq_none (by omega)]; rfl
        rw [this]; rfl
    · rw [if_neg hi]
      obtain rfl : i = rows.length := by omega
      rfl
theorem marks_same (rows : List Row) : allMarks rows = refMarks rows := marks_law rows rows.length 0 (by omega) (Nat.zero_le _) (.inl rfl)
end Go.Proofs.Ytaobccodpdmieaa.Points
/- Points: loops of Marks, of 'same', of the reference's Place, of PointsValid; statements of their answers. -/
set_option linter.unusedVariables false
namespace Go.Proofs.Ytaobccodpdmieaa.Points
open Go Pv G
theorem rowMarks_len (rows : List Row) (M : List Mark) (i : Nat) (hs : smallR rows) : (rowMarks rows M i).length ≤ M.length + 1000 := by
  have h1 := rmM_len i (lineOf rows i) (rowT.nth rows i) (aheadOf rows i) M (Row.cells (rowT.nth rows i)).length
  have h2 := hs.2 i
  unfold rowMarks
  omega
theorem refFold_len (rows : List Row) (hs : smallR rows) : ∀ i, (refFold rows i).length ≤ i * 1001
  | 0 => Nat.le_refl _
  | i + 1 => by
    have h1 := refFold_len rows hs i
    have h2 := rowMarks_len rows (refFold rows i) i hs
    show (refStep rows (refFold rows i) i).length ≤ _
    unfold refStep
    split
    · rw [List.length_append]; simp; omega
    · omega
theorem rmLoop0C (rows : List Row) (hs : smallR rows) : ∀ f i m, f + i = rows.length → f < m →
    LpC X0 0 (ntOf X0 FRM) (lpKeep X0 FRM 0) (lpBody X0 FRM 0) 0 m (stW rows (refFold rows i) i) (.exit 0, stWx rows (allMarks rows)) := by
  have hr := hs.1
  intro f
  induction f with
  | zero =>
    intro i m h1 h2
    obtain rfl : i = rows.length := by omega
    rw [marks_same]
    exact LpC.last (rmExit0 rows _) (by simp)
  | succ f ih =>
    intro i m h1 h2
    obtain ⟨m, rfl⟩ : ∃ x, m = x + 1 := ⟨m - 1, by omega⟩
    have h3 := ih (i + 1) m (by omega) (by omega)
    have h4 := refFold_len rows hs i
    have h5 := rowMarks_len rows (refFold rows i) i hs
    have hn : refFold rows (i + 1) = refStep rows (refFold rows i) i := rfl
    rw [hn] at h3
    unfold refStep at h3
    by_cases hi : i + 1 = rows.length
    · rw [if_pos (.inl hi)] at h3
      exact LpC.next (rmRoundE rows _ i hs hr hi (by omega) (by omega)) h3
    · cases hw : Row.wrapped (rowT.nth rows (i + 1)) with
      | false =>
        rw [if_pos (.inr hw)] at h3
        exact LpC.next (rmRoundA rows _ i hs hr (by omega) hw (by omega) (by omega)) h3
      | true =>
        rw [if_neg (by simp [hi, hw])] at h3
        exact LpC.next (rmRoundB rows _ i hs hr (by omega) hw (by omega) (by omega)) h3
def rmLoop0_T : Prop := ∀ (rows : List Row) (hs : smallR rows), Lp X0 0 (ntOf X0 FRM) (lpKeep X0 FRM 0) (lpBody X0 FRM 0) 0 FUEL (stW rows [] 0) (.exit 0, stWx rows (allMarks rows))
theorem rmLoop0 : rmLoop0_T := fun rows hs => LpC.start (m := 1152921504606846975) (rmLoop0C rows hs rows.length 0 _ (by omega) (by have := hs.1; omega)) (by kernel_rfl)
def rmarks_T : Prop := ∀ (rows : List Row) (hs : smallR rows), Ans X0 FRM [.d (rowT.slD rows)] (.d (markT.slD (allMarks rows)))
theorem allMarks_len {rows : List Row} (hs : smallR rows) : (allMarks rows).length < 2000000 := by
  have := refFold_len rows hs rows.length
  have := hs.1
  rw [marks_same]
  unfold refMarks
  omega

theorem ptsTo_len (m : List Mark) (n : Nat) : (ptsTo m n).length = n := by simp [ptsTo]
theorem ptsTo_nth (m : List Mark) (n i : Nat) (h : i < n) : pointT.nth (ptsTo m n) i = mP (markT.nth m i) := by
  simp [Ty.nth, ptsTo, List.getD_eq_getElem?_getD, h]
theorem sameLoopC (l : List Point) (m : List Mark) (hl : l.length < 100000000) (hm : l.length = m.length) (h : ∀ i, i < l.length → (pointT.nth l i).1 = (markT.nth m i).1 ∧ (pointT.nth l i).2.1 = (markT.nth m i).2.1) : ∀ j i n, j + i = l.length → j < n →
    LpC X0 0 (ntOf X0 FSm) (lpKeep X0 FSm 0) (lpBody X0 FSm 0) 0 n (stSm l m i) (.exit 0, stSmx l m) := by
  intro j
  induction j with
  | zero =>
    intro i n h1 h2
    obtain rfl : i = l.length := by omega
    exact LpC.last (sameExit l m) (by simp)
  | succ j ih =>
    intro i n h1 h2
    obtain ⟨n, rfl⟩ : ∃ x, n = x + 1 := ⟨n - 1, by omega⟩
    exact LpC.next (sameRound l m i hl (by omega) hm (h i (by omega)).1 (h i (by omega)).2) (ih (i + 1) n (by omega) (by omega))
def sameLoop_T : Prop := ∀ (m : List Mark) (hl : m.length < 100000000), Lp X0 0 (ntOf X0 FSm) (lpKeep X0 FSm 0) (lpBody X0 FSm 0) 0 FUEL (stSm (ptsTo m m.length) m 0) (.exit 0, stSmx (ptsTo m m.length) m)
theorem sameLoop : sameLoop_T := fun m hl => LpC.start (m := 1152921504606846975) (sameLoopC (ptsTo m m.length) m (by rw [ptsTo_len]; exact hl) (ptsTo_len _ _) (fun i hi => by rw [ptsTo_len] at hi; rw [ptsTo_nth m _ i hi]; exact ⟨rfl, rfl⟩) (ptsTo m m.length).length 0 _ (by omega) (by rw [ptsTo_len]; omega)) (by kernel_rfl)
def same_T : Prop := ∀ (m : List Mark) (hl : m.length < 100000000) (h2 : (ptsTo m m.length).length = m.length), Ans X0 FSm [.d (pointT.slD (ptsTo m m.length)), .d (markT.slD m)] (.d (.bool true))

theorem plLoopC (m : List Mark) (p : Point) (hl : m.length < 100000000) : ∀ f k n, k + f = m.length → f < n → 0 ≤ findFrom m p f k →
    LpC X0 0 (ntOf X0 FPl) (lpKeep X0 FPl 0) (lpBody X0 FPl 0) 1 n (stPl m p k) (.ret, stPlr p (markT.nth m (findFrom m p f k).toNat)) := by
  intro f
  induction f with
  | zero => intro k n _ _ h; simp [findFrom] at h
  | succ f ih =>
    intro k n h1 h2 h
    simp only [findFrom] at h ⊢
    cases hm : isAt (markT.nth m k) p with
    | true =>
      rw [if_pos rfl, Int.toNat_natCast]
      exact LpC.last (plHit m p k hl (by omega) hm) (by simp)
    | false =>
      rw [hm, if_neg (by simp)] at h
      rw [if_neg (by simp)]
      obtain ⟨n, rfl⟩ : ∃ x, n = x + 1 := ⟨n - 1, by omega⟩
      exact LpC.next (plRound m p k hl (by omega) hm) (ih (k + 1) n (by omega) (by omega) h)
def plLoop_T : Prop := ∀ (m : List Mark) (p : Point) (hl : m.length < 100000000) (h : 0 ≤ findTo m p), Lp X0 0 (ntOf X0 FPl) (lpKeep X0 FPl 0) (lpBody X0 FPl 0) 1 FUEL (stPl m p 0) (.ret, stPlr p (markT.nth m (findTo m p).toNat))
theorem plLoop : plLoop_T := fun m p hl h => LpC.start (m := 1152921504606846975) (plLoopC m p hl m.length 0 _ (by omega) (by omega) h) (by kernel_rfl)
def rplace_T : Prop := ∀ (rows : List Row) (p : Point) (hs : smallR rows) (hl : (allMarks rows).length < 100000000) (h : 0 ≤ findTo (allMarks rows) p), Ans X0 FPl [.d (rowT.slD rows), .d (.agg (pointT.enc p))] (.d (.int .i64 (markT.nth (allMarks rows) (findTo (allMarks rows) p).toNat).2.2.2.1))

/-- Is a point one of the first marks? -/
def inTo (m : List Mark) (p : Point) : Nat → Bool
  | 0 => false
  | i + 1 => inTo m p i || isAt (markT.nth m i) p
theorem inLoopC (rows : List Row) (p : Point) (m : List Mark) (n e : Int) (hm : m.length < 100000000) : ∀ j i k, j + i = m.length → j < k →
    LpC X0 0 (ntOf X0 FPV) (lpKeep X0 FPV 0) (lpBody X0 FPV 0) 1 k (stIn rows p m n e (inTo m p i) i) (.exit 0, stInx rows p m n e (inTo m p m.length)) := by
  intro j
  induction j with
  | zero =>
    intro i n h1 h2
    obtain rfl : i = m.length := by omega
    exact LpC.last (inExit rows p m _ e _) (by simp)
  | succ j ih =>
    intro i k h1 h2
    obtain ⟨k, rfl⟩ : ∃ x, k = x + 1 := ⟨k - 1, by omega⟩
    exact LpC.next (inRound rows p m n e _ i hm (by omega)) (ih (i + 1) k (by omega) (by omega))
def inLoop_T : Prop := ∀ (rows : List Row) (p : Point) (m : List Mark) (n e : Int) (hm : m.length < 100000000), Lp X0 0 (ntOf X0 FPV) (lpKeep X0 FPV 0) (lpBody X0 FPV 0) 1 FUEL (stIn rows p m n e false 0) (.exit 0, stInx rows p m n e (inTo m p m.length))
theorem inLoop : inLoop_T := fun rows p m n e hm => LpC.start (m := 1152921504606846975) (inLoopC rows p m n e hm m.length 0 _ (by omega) (by omega)) (by kernel_rfl)
theorem inTo_find (m : List Mark) (p : Point) : ∀ f k, k + f = m.length → inTo m p k = false → inTo m p m.length = decide (findFrom m p f k ≥ 0)
  | 0, k, h, h0 => by
    obtain rfl : k = m.length := by omega
    rw [h0]; simp [findFrom]
  | f + 1, k, h, h0 => by
    by_cases hm : isAt (markT.nth m k) p = true
    · have h1 : inTo m p (k + 1) = true := by simp [inTo, hm]
      have h2 : ∀ d, inTo m p (k + 1 + d) = true := by
        intro d
        induction d with
        | zero => exact h1
        | succ d ih => show (inTo m p (k + 1 + d) || _) = true; rw [ih]; rfl
      have h3 := h2 f
      rw [show k + 1 + f = m.length by omega] at h3
      have h4 : findFrom m p (f + 1) k = (k : Int) := by simp only [findFrom]; rw [if_pos hm]
      rw [h3, h4]; simp
    · have h4 : findFrom m p (f + 1) k = findFrom m p f (k + 1) := by simp only [findFrom]; rw [if_neg hm]
      rw [h4]
      exact inTo_find m p f (k + 1) (by omega) (by simp [inTo, h0, hm])
theorem findFrom_lt (l : List Mark) (p : Point) : ∀ f k, findFrom l p f k < k + f ∨ findFrom l p f k = -1
  | 0, k => .inr rfl
  | f + 1, k => by
    simp only [findFrom]
    split
    · left; omega
    · have := findFrom_lt l p f (k + 1); omega

def validLong_T : Prop := ∀ (rows : List Row) (p : Point) (hr : okR rows) (hl : 300 < lenTo rows rows.length), Ans X0 FPV [.d (rowT.slD rows), .d (.agg (pointT.enc p))] (.d (.bool true))
def validNo_T : Prop := ∀ (rows : List Row) (p : Point) (hr : okR rows) (hs : smallR rows) (hl : lenTo rows rows.length ≤ 300) (hm : (allMarks rows).length < 100000000) (h2 : (ptsTo (allMarks rows) (allMarks rows).length).length = (allMarks rows).length) (h : findTo (allMarks rows) p < 0) (hd : decide (findTo (allMarks rows) p ≥ 0) = false) (hi : inTo (allMarks rows) p (allMarks rows).length = false), Ans X0 FPV [.d (rowT.slD rows), .d (.agg (pointT.enc p))] (.d (.bool true))
def validYes_T : Prop := ∀ (rows : List Row) (p : Point) (hr : okR rows) (hs : smallR rows) (hl : lenTo rows rows.length ≤ 300) (hm : (allMarks rows).length < 100000000) (h2 : (ptsTo (allMarks rows) (allMarks rows).length).length = (allMarks rows).length) (h : 0 ≤ findTo (allMarks rows) p) (hf : findTo (allMarks rows) p < (allMarks rows).length) (hd : decide (findTo (allMarks rows) p ≥ 0) = true) (hi : inTo (allMarks rows) p (allMarks rows).length = true), Ans X0 FPV [.d (rowT.slD rows), .d (.agg (pointT.enc p))] (.d (.bool true))
end Go.Proofs.Ytaobccodpdmieaa.Points
/- Points: paths, printed by a program of mine. -/
set_option maxRecDepth 100000
set_option linter.unusedSimpArgs false
set_option linter.unusedVariables false
namespace Go.Proofs.Ytaobccodpdmieaa.Points
open Go Pv G
set_option maxHeartbeats 4000000 in
theorem rmarks : rmarks_T := by
  intro rows hs
  exact pV 12 [(1, .l (Ex.exit (0 : Nat)) (stWx rows (allMarks rows)))] (cE (@rmLoop0 (rows) hs) nilE) (by kernel_rfl) rfl rfl
set_option maxHeartbeats 4000000 in
theorem same : same_T := by
  intro m hl h2
  exact (pV (v := V.d (D.bool ((↑(List.length (ptsTo m (List.length m))) : Int) == (↑(List.length m) : Int)))) 12 [(1, .l (Ex.exit (0 : Nat)) (stSmx (ptsTo m (List.length m)) m))] (cE (@sameLoop (m) hl) nilE) (by kernel_rfl) rfl rfl).to (by ((try simp (disch := omega) only [wrapId, toNatAdd, toNatSucc, goesOn, Row.wrapped] at *); (try simp only [Int.toNat_natCast, beq_iff_eq, beq_eq_false_iff_ne, bne_iff_ne, bne_eq_false_iff_eq, ne_eq, Int.natCast_eq_zero, Int.natCast_inj, Row.cells] at *); first | (simp (disch := omega) [Ty.enc, stopAt, endMark, lineMarks, lineM, lineA, lineW, Row.end_, inA, inW, inM, mk, Cell.kind, Cell.at, Row.cells, wrapId, mP, isAt, toNatPred, toNatAdd, toNatSucc, goesOn, ltF, ltT, Row.wrapped, Ty.slD, *]; done) | (subst_vars; simp (disch := omega) [Ty.enc, stopAt, endMark, lineMarks, lineM, lineA, lineW, Row.end_, inA, inW, inM, mk, Cell.kind, Cell.at, Row.cells, wrapId, mP, isAt, toNatPred, toNatAdd, toNatSucc, goesOn, ltF, ltT, Row.wrapped, Ty.slD, *]; done)))
set_option maxHeartbeats 4000000 in
theorem rplace : rplace_T := by
  intro rows p hs hl h
  exact pV 12 [(0, .v (V.d (Ty.slD markT (allMarks rows)))), (2, .l (Ex.ret) (stPlr p (Ty.nth markT (allMarks rows) (Int.toNat (findTo (allMarks rows) p)))))] (cE (@plLoop (allMarks rows) (p) hl h) (cC (@rmarks (rows) hs) nilE)) (by kernel_rfl) rfl rfl
end Go.Proofs.Ytaobccodpdmieaa.Points
/- Points: the statements of runs, first part. -/
set_option linter.unusedVariables false
namespace Go.Proofs.Ytaobccodpdmieaa.Points
open Go Pv G
abbrev nV (n : Int) : V := .d (.int .i64 n)
abbrev tt : V := .d (.bool true)
def one_T : Prop := Ans X0 11 [] tt
def lawNone_T : Prop := ∀ (a b c : Int), Ans X0 9 [.d (.agg [.int .i64 a, .int .i64 b]), nV c] tt
end Go.Proofs.Ytaobccodpdmieaa.Points
/- Points: paths, printed by a program of mine. -/
set_option maxRecDepth 100000
set_option linter.unusedSimpArgs false
set_option linter.unusedVariables false
namespace Go.Proofs.Ytaobccodpdmieaa.Points
open Go Pv G
set_option maxHeartbeats 4000000 in
theorem one : one_T := by
  exact pV 12 [] nilE (by kernel_rfl) rfl rfl
set_option maxHeartbeats 4000000 in
theorem lawNone : lawNone_T := by
  intro a b c
  exact pV 12 [] nilE (by kernel_rfl) rfl rfl
end Go.Proofs.Ytaobccodpdmieaa.Points
/- Points: the law PointsValid: statements of its paths. -/
set_option linter.unusedVariables false
namespace Go.Proofs.Ytaobccodpdmieaa.Points
open Go Pv G
def isYes_T : Prop := ∀ (rows : List Row) (p : Point) (hs : smallR rows) (hl : (allMarks rows).length < 100000000) (h : 0 ≤ findTo (allMarks rows) p), Ans X0 21 [.d (rowT.slD rows), .d (.agg (pointT.enc p))] (.d (.bool true))
def isNo_T : Prop := ∀ (rows : List Row) (p : Point) (hs : smallR rows) (hl : (allMarks rows).length < 100000000) (h : findTo (allMarks rows) p < 0), Ans X0 21 [.d (rowT.slD rows), .d (.agg (pointT.enc p))] (.d (.bool false))
theorem isYes : isYes_T := fun rows p hs hl h => by have := is rows p hs hl; rw [decide_eq_true h] at this; exact this
theorem isNo : isNo_T := fun rows p hs hl h => by have := is rows p hs hl; rw [decide_eq_false (by omega)] at this; exact this
def inYes_T : Prop := ∀ (rows : List Row) (p : Point) (n e : Int) (hl : (allMarks rows).length < 100000000) (h : 0 ≤ findTo (allMarks rows) p), Lp X0 0 (ntOf X0 FPV) (lpKeep X0 FPV 0) (lpBody X0 FPV 0) 1 FUEL (stIn rows p (allMarks rows) n e false 0) (.exit 0, stInx rows p (allMarks rows) n e true)
def inNo_T : Prop := ∀ (rows : List Row) (p : Point) (n e : Int) (hl : (allMarks rows).length < 100000000) (h : findTo (allMarks rows) p < 0), Lp X0 0 (ntOf X0 FPV) (lpKeep X0 FPV 0) (lpBody X0 FPV 0) 1 FUEL (stIn rows p (allMarks rows) n e false 0) (.exit 0, stInx rows p (allMarks rows) n e false)
theorem inYes : inYes_T := fun rows p n e hl h => by
  have := inLoop rows p (allMarks rows) n e hl
  rw [inTo_find (allMarks rows) p (allMarks rows).length 0 (by omega) rfl] at this
  rw [show decide (findFrom (allMarks rows) p (allMarks rows).length 0 ≥ 0) = true from decide_eq_true h] at this
  exact this
theorem inNo : inNo_T := fun rows p n e hl h => by
  have := inLoop rows p (allMarks rows) n e hl
  rw [inTo_find (allMarks rows) p (allMarks rows).length 0 (by omega) rfl] at this
  rw [show decide (findFrom (allMarks rows) p (allMarks rows).length 0 ≥ 0) = false from decide_eq_false (by unfold findTo at h; omega)] at this
  exact this
end Go.Proofs.Ytaobccodpdmieaa.Points
/- Points: paths, printed by a program of mine. -/
set_option maxRecDepth 100000
set_option linter.unusedSimpArgs false
set_option linter.unusedVariables false
namespace Go.Proofs.Ytaobccodpdmieaa.Points
open Go Pv G
set_option maxHeartbeats 4000000 in
theorem validLong : validLong_T := by
  intro rows p hr hl
  exact pV 12 [(0, .v (V.d (D.bool true))), (2, .v (tt))] (cC (@one ) (cC (@longYes (rows) hr hl) nilE)) (by kernel_rfl) rfl rfl
set_option maxHeartbeats 4000000 in
theorem validNo : validNo_T := by
  intro rows p hr hs hl hm h2 h hd hi
  exact pV 12 [(0, .v (V.d (D.bool false))), (2, .v (V.d (Ty.slD markT (allMarks rows)))), (4, .v (V.d (D.tup [(D.int IntKind.i64 (0 : Int)), (D.int IntKind.i64 (1 : Int))]))), (6, .l (Ex.exit (0 : Nat)) (stInx rows p (allMarks rows) (0 : Int) (1 : Int) false)), (7, .v (V.d (Ty.slD pointT (ptsTo (allMarks rows) (List.length (allMarks rows)))))), (8, .v (V.d (D.bool true))), (13, .v (V.d (D.bool false))), (26, .v (tt))] (cC (@one ) (cC (@isNo (rows) (p) hs hm h) (cC (@same (allMarks rows) hm h2) (cC (@valid (rows) hs hm) (cE (@inNo (rows) (p) ((0 : Int)) ((1 : Int)) hm h) (cC (@placeNo (rows) (p) hs hm h) (cC (@rmarks (rows) hs) (cC (@longNo (rows) hr hl) nilE)))))))) (by kernel_rfl) rfl rfl
set_option maxHeartbeats 4000000 in
theorem validYes : validYes_T := by
  intro rows p hr hs hl hm h2 h hf hd hi
  have h0 : ((Prod.fst (Prod.snd (Prod.snd (Prod.snd (Ty.nth markT (allMarks rows) (Int.toNat (findTo (allMarks rows) p))))))) == (Prod.fst (Prod.snd (Prod.snd (Prod.snd (Ty.nth markT (allMarks rows) (Int.toNat (findTo (allMarks rows) p)))))))) = true := by (((try simp only [eq_self, and_true, true_and, Bool.and_true, Bool.true_and, Bool.not_eq_true', Bool.not_eq_false', Bool.and_eq_true, Bool.and_eq_false_iff, decide_eq_true_eq, decide_eq_false_iff_not, beq_iff_eq, beq_eq_false_iff_ne, bne_iff_ne, bne_eq_false_iff_eq, ne_eq, not_and, Int.toNat_natCast] at *); (try simp only [Row.cells, Row.wrapped, Row.end_, Cell.kind, Cell.at] at *); (try simp (disch := omega) only [wrapId, toNatAdd, toNatSucc, isAt, reduceCtorEq, or_false, and_true, Bool.and_true, Bool.and_eq_true, Bool.and_eq_false_iff, beq_iff_eq, beq_eq_false_iff_ne, ne_eq, Int.toNat_natCast] at *)) <;> first | omega | assumption | (refine ⟨?_, ?_⟩ <;> assumption))
  exact pV 12 [(0, .v (V.d (D.bool false))), (2, .v (V.d (Ty.slD markT (allMarks rows)))), (4, .v (V.d (D.tup [(D.int IntKind.i64 (Prod.fst (Prod.snd (Prod.snd (Prod.snd (Ty.nth markT (allMarks rows) (Int.toNat (findTo (allMarks rows) p)))))))), (D.int IntKind.i64 (0 : Int))]))), (6, .l (Ex.exit (0 : Nat)) (stInx rows p (allMarks rows) (Prod.fst (Prod.snd (Prod.snd (Prod.snd (Ty.nth markT (allMarks rows) (Int.toNat (findTo (allMarks rows) p))))))) (0 : Int) true)), (7, .v (V.d (Ty.slD pointT (ptsTo (allMarks rows) (List.length (allMarks rows)))))), (8, .v (V.d (D.bool true))), (13, .v (V.d (D.bool true))), (26, .v (V.d (D.int IntKind.i64 (Prod.fst (Prod.snd (Prod.snd (Prod.snd (Ty.nth markT (allMarks rows) (Int.toNat (findTo (allMarks rows) p)))))))))), (30, bt), (31, .v (tt)), (32, bt)] (cP h0 (cC (@one ) (cP h0 (cC (@rplace (rows) (p) hs hm h) (cC (@isYes (rows) (p) hs hm h) (cC (@same (allMarks rows) hm h2) (cC (@valid (rows) hs hm) (cE (@inYes (rows) (p) (Prod.fst (Prod.snd (Prod.snd (Prod.snd (Ty.nth markT (allMarks rows) (Int.toNat (findTo (allMarks rows) p))))))) ((0 : Int)) hm h) (cC (@placeYes (rows) (p) hs hm h hf) (cC (@rmarks (rows) hs) (cC (@longNo (rows) hr hl) nilE))))))))))) (by kernel_rfl) rfl rfl
end Go.Proofs.Ytaobccodpdmieaa.Points
/- Points: the law PointsValid, on data. -/
set_option linter.unusedVariables false
namespace Go.Proofs.Ytaobccodpdmieaa.Points
open Go Pv G
theorem lenTo_ge (rows : List Row) : ∀ n, n ≤ lenTo rows n
  | 0 => Nat.le_refl _
  | n + 1 => by have := lenTo_ge rows n; show n + 1 ≤ lenTo rows n + _ + 1; omega
theorem nth_out {e : Ty} (l : List e.ty) (i : Nat) (h : l.length ≤ i) : e.nth l i = e.dflt := by
  simp only [Ty.nth, List.getD_eq_getElem?_getD]
  rw [List.getElem?_eq_none h]; rfl
theorem small_of (rows : List Row) (h : lenTo rows rows.length ≤ 300) : smallR rows := by
  refine ⟨by have := lenTo_ge rows rows.length; omega, fun i => ?_⟩
  by_cases hi : i < rows.length
  · have h1 := lenTo_mono rows (i + 1) rows.length hi
    have h2 : lenTo rows (i + 1) = lenTo rows i + (Row.cells (rowT.nth rows i)).length + 1 := rfl
    omega
  · rw [nth_out (e := rowT) rows i (by omega)]
    exact Nat.zero_le _
theorem okR_of (rows : List Row) (h : Ty.ok (.sl rowT) rows) : okR rows := by
  have hm : reachBytes < 1000000000000000 := by decide
  refine ⟨Nat.lt_of_le_of_lt h.1 hm, fun i => ?_⟩
  by_cases hi : i < rows.length
  · have h1 : rowT.nth rows i = rows[i] := by simp [Ty.nth, List.getD_eq_getElem?_getD, hi]
    rw [h1]
    have h2 := h.2 rows[i] (List.getElem_mem hi)
    exact Nat.lt_of_le_of_lt h2.1.1 hm
  · rw [nth_out (e := rowT) rows i (by omega)]
    decide
theorem validLaw (rows : List Row) (p : Point) (h : Ty.ok (.sl rowT) rows) : Ans X0 FPV [.d (rowT.slD rows), .d (.agg (pointT.enc p))] (.d (.bool true)) := by
  have hr := okR_of rows h
  by_cases hl : lenTo rows rows.length ≤ 300
  · have hs := small_of rows hl
    have hm := allMarks_len hs
    have hf : inTo (allMarks rows) p (allMarks rows).length = decide (findTo (allMarks rows) p ≥ 0) := inTo_find (allMarks rows) p (allMarks rows).length 0 (by omega) rfl
    by_cases h0 : 0 ≤ findTo (allMarks rows) p
    · have hlt : findTo (allMarks rows) p < (allMarks rows).length := by
        have := findFrom_lt (allMarks rows) p (allMarks rows).length 0
        unfold findTo at h0 ⊢
        omega
      exact validYes rows p hr hs hl (by omega) (ptsTo_len _ _) h0 hlt (decide_eq_true h0) (by rw [hf]; exact decide_eq_true h0)
    · exact validNo rows p hr hs hl (by omega) (ptsTo_len _ _) (by omega) (decide_eq_false h0) (by rw [hf]; exact decide_eq_false h0)
  · exact validLong rows p hr (by omega)
end Go.Proofs.Ytaobccodpdmieaa.Points
/- bodkin: the law PointsValid, from its run to its statement: for every input it returns true and its arguments read as before. No conditions. -/
set_option linter.unusedSimpArgs false
set_option linter.unusedVariables false
namespace Go.Proofs.Ytaobccodpdmieaa.pointsValid
open Go Go.ChangeShapes Go.WideShapes Go.ChangeAt Go.RowKit Pv G
abbrev T0 : Ty := (.sl (.st (.cons (.sl (.st (.cons (.int .i32) (.cons (.int .i64) (.cons (.int .i64) (.cons (.int .i64) .nil)))))) (.cons (.int .i64) (.cons (.int .i64) (.cons (.int .i64) (.cons .bool (.cons .bool (.cons (.int .i64) .nil)))))))))
abbrev T1 : Ty := (.st (.cons (.int .i64) (.cons (.int .i64) .nil)))
def Law : Prop := ∀ (y0 : T0.ty) (y1 : T1.ty), T0.ok y0 → T1.ok y1 → Ans X0 5 [.d (T0.argD y0), .d (T1.argD y1)] (.d (.bool true))
theorem law : Law := fun y0 y1 o0 _ => Points.validLaw y0 y1 o0
theorem own : ownKnob Try.prog.godebug = none := by kernel_rfl
set_option maxRecDepth 100000 in
theorem contract (H : Type) (enc : TypeId × Value → H) (W : World) (base : Nat) (args : Array Value) (ds gs : List (DataW H)) (before : List MemPlace)
    (hval : ∀ (j : Nat) t v, Try.f5.params[j]? = some t → args[j]? = some v → Value.okWide Try.prog W .any base t v)
    (hW : DataW.Whole enc Try.prog Try.f5.params.toList Rows.pointsValidSpec.vars false W args.toList ds gs before)
    (hsz : (DataW.weightsEach Try.prog (Try.f5.params.toList ++ Rows.pointsValidSpec.plain.varTypes Try.prog) (ds ++ gs)).all (· ≤ reachBytes) = true) :
    Calls Try.prog 5 args W fun e W' => ∃ v, e = .returned v ∧ Rows.pointsValidSpec.post enc Try.prog Try.f5 false true false false W args v W' := by
  have hW' := hW
  have hlt := hW.lt
  obtain ⟨p, q, hA0, hV, rfl, hfz, hnd⟩ := hW
  have hA : DataW.TrodAll enc Try.prog W 0 (fun _ => true) true Try.f5.params.toList args.toList ds p := hA0
  rw [Try.params5] at hA hval hsz
  obtain ⟨v0, vs0, d0, ds0, p0, q0, hargs, rfl, rfl, h0, r0⟩ := trodAll_cons hA
  obtain ⟨v1, vs1, d1, ds1, p1, q1, rfl, rfl, rfl, h1, r1⟩ := trodAll_cons r0
  obtain ⟨rfl, rfl, rfl⟩ := trodAll_nil r1
  obtain rfl : args = #[v0, v1] := by cases args; simp_all
  obtain ⟨rfl, rfl⟩ := trodVars_none hV
  obtain ⟨y0, o0, e0⟩ := open_arg (T := T0) (by kernel_rfl) (hval 0 _ v0 rfl rfl) h0 (fun n hn => of_decide_eq_true (List.all_eq_true.1 hsz n (DataW.weights_mem_each (j := 0) rfl rfl n hn)))
  obtain ⟨y1, o1, e1⟩ := open_arg (T := T1) (by kernel_rfl) (hval 1 _ v1 rfl rfl) h1 (fun n hn => of_decide_eq_true (List.all_eq_true.1 hsz n (DataW.weights_mem_each (j := 1) rfl rfl n hn)))
  obtain ⟨K, hK⟩ := law y0 y1 o0 o1
  have run := hK K (Nat.le_refl K)
  have hp : PtV X0 W (topG W) [v0, v1] [.d (T0.argD y0), .d (T1.argD y1)] := by
    refine ⟨rfl, fun j v x k1 k2 => ?_⟩
    match j with
    | 0 => simp at k1 k2; subst k1; subst k2; exact e0 _ _
    | 1 => simp at k1 k2; subst k1; subst k2; exact e1 _ _
    | j + 2 => simp at k1
  clear hA0
  simp only [List.append_nil] at hW'
  refine (law_calls run rfl hp).mono fun e W' ⟨he, hb⟩ => ?_
  subst he
  exact ⟨_, rfl, post_of_below (pa := _) (pv := []) hW' (fun _ _ _ => trodAll_cons_mk (shut_bool Try.underlying4 _) trodAll_mk0)
    (fun sp hsp => (trodAll_cons_mk (WideElems.Trod_stays (by kernel_rfl) (by kernel_rfl) (of_decide_eq_true (by kernel_rfl)) h0 (fun x hx => hb.same (hlt x (by simp [hx]))) (fun x hx => hsp x (by simp [hx]))) (trodAll_cons_mk (WideElems.Trod_stays (by kernel_rfl) (by kernel_rfl) (of_decide_eq_true (by kernel_rfl)) h1 (fun x hx => hb.same (hlt x (by simp [hx]))) (fun x hx => hsp x (by simp [hx]))) trodAll_mk0)))
    (fun _ _ => rfl) (by simp) hb (ok_one (by kernel_rfl) rfl (okWide_bool_mk Try.underlying4 _))⟩

set_option maxRecDepth 100000 in
theorem lifted (os : Os) (started : os.Started) (H : Type) (enc : TypeId × Value → H) :
    ReturnsInHanded {} Try.checked os 5 .any (Rows.pointsValidSpec.pre6 enc Try.prog Try.f5 Rows.pointsValidRow.domain false) (Rows.pointsValidSpec.post enc Try.prog Try.f5 false true false false) := by
  refine returnsInHanded_of_change_sized (C := Try.checked) own started (by kernel_rfl) Try.func5
    (ChangeSpec.witness6 (enc := enc) (C := Try.checked) false ⟨#[], #[.slice none 0 0, .agg #[.int .i64 0, .int .i64 0]], []⟩ 8 (by kernel_rfl) (by kernel_rfl) (by kernel_rfl) (by kernel_rfl)) ?_
  intro W base args ds gs before hval hW hcnd hsz _
  exact contract H enc W base args ds gs before hval hW hsz

/-- PointsValid: for every input it returns true. -/
theorem holds : Rows.PointsValidSaid :=
  OpenClaim.holds_of_wide 5 Try.f5 rfl rfl rfl rfl rfl rfl rfl ⟨rfl, rfl, rfl, rfl, rfl⟩ rfl rfl rfl rfl rfl (by kernel_rfl) Try.func5 (by kernel_rfl)
    (of_decide_eq_true (by kernel_rfl)) (by unfold Func.isWrapper; first | (rw [if_pos (by decide +kernel)]; kernel_rfl) | (rw [if_neg (by decide +kernel)]; exact ⟨rfl, rfl⟩))
    (fun os started H enc _ => lifted os started H enc)
end Go.Proofs.Ytaobccodpdmieaa.pointsValid
