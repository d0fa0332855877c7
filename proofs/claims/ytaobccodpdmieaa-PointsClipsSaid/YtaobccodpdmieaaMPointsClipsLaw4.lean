/- Lemmas for the law PointsClipsLaw: texts of mine, merged. -/
import Derived.Test.YtaobccodpdmieaaChecked
import Derived.WalkKit
import Derived.Deep.LoopGhost
import Derived.Lib.Walk
import Derived.Below
import Derived.Test.YtaobccodpdmieaaMPointsClipsLaw3
/- Points: paths, printed by a program of mine. -/
set_option maxRecDepth 100000
set_option linter.unusedSimpArgs false
set_option linter.unusedVariables false
namespace Go.Proofs.Ytaobccodpdmieaa.Points
open Go Pv G
set_option maxHeartbeats 4000000 in
theorem rmRoundE : rmRoundE_T := by
  intro rows M i hs hr hi hM hM2
  have h0 : (decide ((↑i : Int) < (↑(List.length rows) : Int))) = true := by (((try simp only [Bool.not_eq_true', Bool.not_eq_false', Bool.and_eq_true, Bool.and_eq_false_iff, decide_eq_true_eq, decide_eq_false_iff_not, beq_iff_eq, beq_eq_false_iff_ne, bne_iff_ne, bne_eq_false_iff_eq, ne_eq, not_and, Int.toNat_natCast] at *); (try simp only [Row.cells, Row.wrapped, Row.end_, Cell.kind, Cell.at] at *); (try simp (disch := omega) only [wrapId, toNatAdd, toNatSucc, isAt, reduceCtorEq, or_false, and_true, Bool.and_true, Bool.and_eq_true, Bool.and_eq_false_iff, beq_iff_eq, beq_eq_false_iff_ne, ne_eq, Int.toNat_natCast] at *)) <;> first | omega | assumption)
  have h1 : ((↑i : Int) == (IntKind.wrap IntKind.i64 ((↑(List.length rows) : Int) - (1 : Int)))) = true := by (((try simp only [Bool.not_eq_true', Bool.not_eq_false', Bool.and_eq_true, Bool.and_eq_false_iff, decide_eq_true_eq, decide_eq_false_iff_not, beq_iff_eq, beq_eq_false_iff_ne, bne_iff_ne, bne_eq_false_iff_eq, ne_eq, not_and, Int.toNat_natCast] at *); (try simp only [Row.cells, Row.wrapped, Row.end_, Cell.kind, Cell.at] at *); (try simp (disch := omega) only [wrapId, toNatAdd, toNatSucc, isAt, reduceCtorEq, or_false, and_true, Bool.and_true, Bool.and_eq_true, Bool.and_eq_false_iff, beq_iff_eq, beq_eq_false_iff_ne, ne_eq, Int.toNat_natCast] at *)) <;> first | omega | assumption)
  exact (pC (st' := { s := [((nat_lit 0), (V.d (D.sl (List.flatMap (Ty.enc rowT) rows) (List.length rows)))), ((nat_lit 3), (V.tail (nat_lit 51) (List.flatMap (Ty.enc markT) ((rowMarks rows M i) ++ [((↑i : Int), (↑(List.length (Prod.fst (Ty.nth rowT rows i))) : Int), (0 : Int), (Prod.fst (Prod.snd (Prod.snd (Ty.nth rowT rows i)))), ())])) (List.length ((rowMarks rows M i) ++ [((↑i : Int), (↑(List.length (Prod.fst (Ty.nth rowT rows i))) : Int), (0 : Int), (Prod.fst (Prod.snd (Prod.snd (Ty.nth rowT rows i)))), ())])))), ((nat_lit 10), (V.d (D.sl (List.flatMap (Ty.enc rowT) rows) (List.length rows)))), ((nat_lit 11), (V.d (D.int IntKind.i64 (↑(List.length rows) : Int)))), ((nat_lit 12), (V.d (D.int IntKind.i64 (IntKind.wrap IntKind.i64 ((↑i : Int) + (1 : Int))))))], h := [], og := [] }) 12 [(1, bt), (2, .v (V.d (D.ref (List.flatMap (Ty.enc rowT) rows) ((Int.toNat (↑i : Int)) * (7 : Nat))))), (3, .v (V.d (D.agg (Ty.enc rowT (Ty.nth rowT rows (Int.toNat (↑i : Int))))))), (4, .v (V.d (D.agg [(Ty.slD cellT (lineOf rows i)), (D.int IntKind.i64 (↑(aheadOf rows i) : Int))]))), (8, .l (Ex.exit (2 : Nat)) (stKx rows i (Ty.nth rowT rows i) (lineOf rows i) (aheadOf rows i) (rowMarks rows M i) (kEnd rows i))), (12, bt), (13, bt), (14, bt), (15, bt), (16, bt), (17, bt), (18, bt), (19, bt), (24, .v (Ty.tailV markT (51 : TypeId) ((rowMarks rows M i) ++ [((↑i : Int), (↑(List.length (Prod.fst (Ty.nth rowT rows i))) : Int), (0 : Int), (Prod.fst (Prod.snd (Prod.snd (Ty.nth rowT rows i)))), ())])))] (cP (@appendRMark (rowMarks rows M i) ((↑i : Int)) ((↑(List.length (Prod.fst (Ty.nth rowT rows i))) : Int)) ((0 : Int)) (Prod.fst (Prod.snd (Prod.snd (Ty.nth rowT rows i)))) (by (((try simp only [Bool.not_eq_true', Bool.not_eq_false', Bool.and_eq_true, Bool.and_eq_false_iff, decide_eq_true_eq, decide_eq_false_iff_not, beq_iff_eq, beq_eq_false_iff_ne, bne_iff_ne, bne_eq_false_iff_eq, ne_eq, not_and, Int.toNat_natCast] at *); (try simp only [Row.cells, Row.wrapped, Row.end_, Cell.kind, Cell.at] at *); (try simp (disch := omega) only [wrapId, toNatAdd, toNatSucc, isAt, reduceCtorEq, or_false, and_true, Bool.and_true, Bool.and_eq_true, Bool.and_eq_false_iff, beq_iff_eq, beq_eq_false_iff_ne, ne_eq, Int.toNat_natCast] at *)) <;> first | omega | assumption))) (cP h1 (cP h1 (cP h1 (cP h1 (cP h1 (cP h1 (cP h1 (cP h1 (cE (@rmLoop1 (rows) (i) (M) hs (by (((try simp only [Bool.not_eq_true', Bool.not_eq_false', Bool.and_eq_true, Bool.and_eq_false_iff, decide_eq_true_eq, decide_eq_false_iff_not, beq_iff_eq, beq_eq_false_iff_ne, bne_iff_ne, bne_eq_false_iff_eq, ne_eq, not_and, Int.toNat_natCast] at *); (try simp only [Row.cells, Row.wrapped, Row.end_, Cell.kind, Cell.at] at *); (try simp (disch := omega) only [wrapId, toNatAdd, toNatSucc, isAt, reduceCtorEq, or_false, and_true, Bool.and_true, Bool.and_eq_true, Bool.and_eq_false_iff, beq_iff_eq, beq_eq_false_iff_ne, ne_eq, Int.toNat_natCast] at *)) <;> first | omega | assumption)) hM) (cC (@rline (rows) (i) hs hr (by (((try simp only [Bool.not_eq_true', Bool.not_eq_false', Bool.and_eq_true, Bool.and_eq_false_iff, decide_eq_true_eq, decide_eq_false_iff_not, beq_iff_eq, beq_eq_false_iff_ne, bne_iff_ne, bne_eq_false_iff_eq, ne_eq, not_and, Int.toNat_natCast] at *); (try simp only [Row.cells, Row.wrapped, Row.end_, Cell.kind, Cell.at] at *); (try simp (disch := omega) only [wrapId, toNatAdd, toNatSucc, isAt, reduceCtorEq, or_false, and_true, Bool.and_true, Bool.and_eq_true, Bool.and_eq_false_iff, beq_iff_eq, beq_eq_false_iff_ne, ne_eq, Int.toNat_natCast] at *)) <;> first | omega | assumption))) (cP (@loadRow (rows) ([]) (Int.toNat (↑i : Int)) (by (((try simp only [Bool.not_eq_true', Bool.not_eq_false', Bool.and_eq_true, Bool.and_eq_false_iff, decide_eq_true_eq, decide_eq_false_iff_not, beq_iff_eq, beq_eq_false_iff_ne, bne_iff_ne, bne_eq_false_iff_eq, ne_eq, not_and, Int.toNat_natCast] at *); (try simp only [Row.cells, Row.wrapped, Row.end_, Cell.kind, Cell.at] at *); (try simp (disch := omega) only [wrapId, toNatAdd, toNatSucc, isAt, reduceCtorEq, or_false, and_true, Bool.and_true, Bool.and_eq_true, Bool.and_eq_false_iff, beq_iff_eq, beq_eq_false_iff_ne, ne_eq, Int.toNat_natCast] at *)) <;> first | omega | assumption))) (cP (@iaddrRow (rows) ((↑i : Int)) (by (((try simp only [Bool.not_eq_true', Bool.not_eq_false', Bool.and_eq_true, Bool.and_eq_false_iff, decide_eq_true_eq, decide_eq_false_iff_not, beq_iff_eq, beq_eq_false_iff_ne, bne_iff_ne, bne_eq_false_iff_eq, ne_eq, not_and, Int.toNat_natCast] at *); (try simp only [Row.cells, Row.wrapped, Row.end_, Cell.kind, Cell.at] at *); (try simp (disch := omega) only [wrapId, toNatAdd, toNatSucc, isAt, reduceCtorEq, or_false, and_true, Bool.and_true, Bool.and_eq_true, Bool.and_eq_false_iff, beq_iff_eq, beq_eq_false_iff_ne, ne_eq, Int.toNat_natCast] at *)) <;> first | omega | assumption)) (by (((try simp only [Bool.not_eq_true', Bool.not_eq_false', Bool.and_eq_true, Bool.and_eq_false_iff, decide_eq_true_eq, decide_eq_false_iff_not, beq_iff_eq, beq_eq_false_iff_ne, bne_iff_ne, bne_eq_false_iff_eq, ne_eq, not_and, Int.toNat_natCast] at *); (try simp only [Row.cells, Row.wrapped, Row.end_, Cell.kind, Cell.at] at *); (try simp (disch := omega) only [wrapId, toNatAdd, toNatSucc, isAt, reduceCtorEq, or_false, and_true, Bool.and_true, Bool.and_eq_true, Bool.and_eq_false_iff, beq_iff_eq, beq_eq_false_iff_ne, ne_eq, Int.toNat_natCast] at *)) <;> first | omega | assumption))) (cP h0 nilE)))))))))))))) (by kernel_rfl)).to (by ((try simp (disch := omega) only [wrapId, toNatAdd, toNatSucc, goesOn, Row.wrapped] at *); (try simp only [Int.toNat_natCast, beq_iff_eq, beq_eq_false_iff_ne, bne_iff_ne, bne_eq_false_iff_eq, ne_eq, Int.natCast_eq_zero, Int.natCast_inj, Row.cells] at *); first | (simp (disch := omega) [Ty.enc, stopAt, endMark, lineMarks, lineM, lineA, lineW, Row.end_, inA, inW, inM, mk, Cell.kind, Cell.at, Row.cells, wrapId, mP, isAt, toNatPred, toNatAdd, toNatSucc, goesOn, ltF, ltT, Row.wrapped, Ty.slD, *]; done) | (subst_vars; simp (disch := omega) [Ty.enc, stopAt, endMark, lineMarks, lineM, lineA, lineW, Row.end_, inA, inW, inM, mk, Cell.kind, Cell.at, Row.cells, wrapId, mP, isAt, toNatPred, toNatAdd, toNatSucc, goesOn, ltF, ltT, Row.wrapped, Ty.slD, *]; done)))
set_option maxHeartbeats 4000000 in
theorem rmRoundA : rmRoundA_T := by
  intro rows M i hs hr hi hw hM hM2
  have h0 : (decide ((↑i : Int) < (↑(List.length rows) : Int))) = true := by (((try simp only [Bool.not_eq_true', Bool.not_eq_false', Bool.and_eq_true, Bool.and_eq_false_iff, decide_eq_true_eq, decide_eq_false_iff_not, beq_iff_eq, beq_eq_false_iff_ne, bne_iff_ne, bne_eq_false_iff_eq, ne_eq, not_and, Int.toNat_natCast] at *); (try simp only [Row.cells, Row.wrapped, Row.end_, Cell.kind, Cell.at] at *); (try simp (disch := omega) only [wrapId, toNatAdd, toNatSucc, isAt, reduceCtorEq, or_false, and_true, Bool.and_true, Bool.and_eq_true, Bool.and_eq_false_iff, beq_iff_eq, beq_eq_false_iff_ne, ne_eq, Int.toNat_natCast] at *)) <;> first | omega | assumption)
  have h1 : ((↑i : Int) == (IntKind.wrap IntKind.i64 ((↑(List.length rows) : Int) - (1 : Int)))) = false := by (((try simp only [Bool.not_eq_true', Bool.not_eq_false', Bool.and_eq_true, Bool.and_eq_false_iff, decide_eq_true_eq, decide_eq_false_iff_not, beq_iff_eq, beq_eq_false_iff_ne, bne_iff_ne, bne_eq_false_iff_eq, ne_eq, not_and, Int.toNat_natCast] at *); (try simp only [Row.cells, Row.wrapped, Row.end_, Cell.kind, Cell.at] at *); (try simp (disch := omega) only [wrapId, toNatAdd, toNatSucc, isAt, reduceCtorEq, or_false, and_true, Bool.and_true, Bool.and_eq_true, Bool.and_eq_false_iff, beq_iff_eq, beq_eq_false_iff_ne, ne_eq, Int.toNat_natCast] at *)) <;> first | omega | assumption)
  have h2 : (!(Prod.fst (Prod.snd (Prod.snd (Prod.snd (Prod.snd (Ty.nth rowT rows (Int.toNat (IntKind.wrap IntKind.i64 ((↑i : Int) + (1 : Int))))))))))) = true := by (((try simp only [Bool.not_eq_true', Bool.not_eq_false', Bool.and_eq_true, Bool.and_eq_false_iff, decide_eq_true_eq, decide_eq_false_iff_not, beq_iff_eq, beq_eq_false_iff_ne, bne_iff_ne, bne_eq_false_iff_eq, ne_eq, not_and, Int.toNat_natCast] at *); (try simp only [Row.cells, Row.wrapped, Row.end_, Cell.kind, Cell.at] at *); (try simp (disch := omega) only [wrapId, toNatAdd, toNatSucc, isAt, reduceCtorEq, or_false, and_true, Bool.and_true, Bool.and_eq_true, Bool.and_eq_false_iff, beq_iff_eq, beq_eq_false_iff_ne, ne_eq, Int.toNat_natCast] at *)) <;> first | omega | assumption)
  exact (pC (st' := { s := [((nat_lit 0), (V.d (D.sl (List.flatMap (Ty.enc rowT) rows) (List.length rows)))), ((nat_lit 3), (V.tail (nat_lit 51) (List.flatMap (Ty.enc markT) ((rowMarks rows M i) ++ [((↑i : Int), (↑(List.length (Prod.fst (Ty.nth rowT rows i))) : Int), (0 : Int), (Prod.fst (Prod.snd (Prod.snd (Ty.nth rowT rows i)))), ())])) (List.length ((rowMarks rows M i) ++ [((↑i : Int), (↑(List.length (Prod.fst (Ty.nth rowT rows i))) : Int), (0 : Int), (Prod.fst (Prod.snd (Prod.snd (Ty.nth rowT rows i)))), ())])))), ((nat_lit 10), (V.d (D.sl (List.flatMap (Ty.enc rowT) rows) (List.length rows)))), ((nat_lit 11), (V.d (D.int IntKind.i64 (↑(List.length rows) : Int)))), ((nat_lit 12), (V.d (D.int IntKind.i64 (IntKind.wrap IntKind.i64 ((↑i : Int) + (1 : Int))))))], h := [], og := [] }) 12 [(1, bt), (2, .v (V.d (D.ref (List.flatMap (Ty.enc rowT) rows) ((Int.toNat (↑i : Int)) * (7 : Nat))))), (3, .v (V.d (D.agg (Ty.enc rowT (Ty.nth rowT rows (Int.toNat (↑i : Int))))))), (4, .v (V.d (D.agg [(Ty.slD cellT (lineOf rows i)), (D.int IntKind.i64 (↑(aheadOf rows i) : Int))]))), (8, .l (Ex.exit (2 : Nat)) (stKx rows i (Ty.nth rowT rows i) (lineOf rows i) (aheadOf rows i) (rowMarks rows M i) (kEnd rows i))), (12, bf), (13, bf), (14, bf), (16, bf), (17, .v (V.d (D.ref (List.flatMap (Ty.enc rowT) rows) ((Int.toNat (IntKind.wrap IntKind.i64 ((↑i : Int) + (1 : Int)))) * (7 : Nat))))), (18, bf), (19, bf), (20, .v (V.d (List.getD (Ty.enc rowT (Ty.nth rowT rows (Int.toNat (IntKind.wrap IntKind.i64 ((↑i : Int) + (1 : Int)))))) (nat_lit 4) D.und))), (21, bf), (22, bf), (23, bt), (27, .v (Ty.tailV markT (51 : TypeId) ((rowMarks rows M i) ++ [((↑i : Int), (↑(List.length (Prod.fst (Ty.nth rowT rows i))) : Int), (0 : Int), (Prod.fst (Prod.snd (Prod.snd (Ty.nth rowT rows i)))), ())])))] (cP (@appendRMark (rowMarks rows M i) ((↑i : Int)) ((↑(List.length (Prod.fst (Ty.nth rowT rows i))) : Int)) ((0 : Int)) (Prod.fst (Prod.snd (Prod.snd (Ty.nth rowT rows i)))) (by (((try simp only [Bool.not_eq_true', Bool.not_eq_false', Bool.and_eq_true, Bool.and_eq_false_iff, decide_eq_true_eq, decide_eq_false_iff_not, beq_iff_eq, beq_eq_false_iff_ne, bne_iff_ne, bne_eq_false_iff_eq, ne_eq, not_and, Int.toNat_natCast] at *); (try simp only [Row.cells, Row.wrapped, Row.end_, Cell.kind, Cell.at] at *); (try simp (disch := omega) only [wrapId, toNatAdd, toNatSucc, isAt, reduceCtorEq, or_false, and_true, Bool.and_true, Bool.and_eq_true, Bool.and_eq_false_iff, beq_iff_eq, beq_eq_false_iff_ne, ne_eq, Int.toNat_natCast] at *)) <;> first | omega | assumption))) (cP h2 (cP h1 (cP h1 (cP (@loadRowB (rows) ([(Ob.cells [(V.d (D.sl (List.flatMap (Ty.enc cellT) (Prod.fst (Ty.nth rowT rows i))) (List.length (Prod.fst (Ty.nth rowT rows i))))), (V.d (D.int IntKind.i64 (Prod.fst (Prod.snd (Ty.nth rowT rows i))))), (V.d (D.int IntKind.i64 (Prod.fst (Prod.snd (Prod.snd (Ty.nth rowT rows i)))))), (V.d (D.int IntKind.i64 (Prod.fst (Prod.snd (Prod.snd (Prod.snd (Ty.nth rowT rows i))))))), (V.d (D.bool (Prod.fst (Prod.snd (Prod.snd (Prod.snd (Prod.snd (Ty.nth rowT rows i)))))))), (V.d (D.bool (Prod.fst (Prod.snd (Prod.snd (Prod.snd (Prod.snd (Prod.snd (Ty.nth rowT rows i))))))))), (V.d (D.int IntKind.i64 (Prod.fst (Prod.snd (Prod.snd (Prod.snd (Prod.snd (Prod.snd (Prod.snd (Ty.nth rowT rows i))))))))))]), (Ob.cells [(V.d (D.sl (List.flatMap (Ty.enc cellT) (lineOf rows i)) (List.length (lineOf rows i)))), (V.d (D.int IntKind.i64 (↑(aheadOf rows i) : Int)))])]) (Int.toNat (IntKind.wrap IntKind.i64 ((↑i : Int) + (1 : Int)))) (nat_lit 4) (by (((try simp only [Bool.not_eq_true', Bool.not_eq_false', Bool.and_eq_true, Bool.and_eq_false_iff, decide_eq_true_eq, decide_eq_false_iff_not, beq_iff_eq, beq_eq_false_iff_ne, bne_iff_ne, bne_eq_false_iff_eq, ne_eq, not_and, Int.toNat_natCast] at *); (try simp only [Row.cells, Row.wrapped, Row.end_, Cell.kind, Cell.at] at *); (try simp (disch := omega) only [wrapId, toNatAdd, toNatSucc, isAt, reduceCtorEq, or_false, and_true, Bool.and_true, Bool.and_eq_true, Bool.and_eq_false_iff, beq_iff_eq, beq_eq_false_iff_ne, ne_eq, Int.toNat_natCast] at *)) <;> first | omega | assumption)) (by (((try simp only [Bool.not_eq_true', Bool.not_eq_false', Bool.and_eq_true, Bool.and_eq_false_iff, decide_eq_true_eq, decide_eq_false_iff_not, beq_iff_eq, beq_eq_false_iff_ne, bne_iff_ne, bne_eq_false_iff_eq, ne_eq, not_and, Int.toNat_natCast] at *); (try simp only [Row.cells, Row.wrapped, Row.end_, Cell.kind, Cell.at] at *); (try simp (disch := omega) only [wrapId, toNatAdd, toNatSucc, isAt, reduceCtorEq, or_false, and_true, Bool.and_true, Bool.and_eq_true, Bool.and_eq_false_iff, beq_iff_eq, beq_eq_false_iff_ne, ne_eq, Int.toNat_natCast] at *)) <;> first | omega | assumption))) (cP h1 (cP h1 (cP (@iaddrRow (rows) (IntKind.wrap IntKind.i64 ((↑i : Int) + (1 : Int))) (by (((try simp only [Bool.not_eq_true', Bool.not_eq_false', Bool.and_eq_true, Bool.and_eq_false_iff, decide_eq_true_eq, decide_eq_false_iff_not, beq_iff_eq, beq_eq_false_iff_ne, bne_iff_ne, bne_eq_false_iff_eq, ne_eq, not_and, Int.toNat_natCast] at *); (try simp only [Row.cells, Row.wrapped, Row.end_, Cell.kind, Cell.at] at *); (try simp (disch := omega) only [wrapId, toNatAdd, toNatSucc, isAt, reduceCtorEq, or_false, and_true, Bool.and_true, Bool.and_eq_true, Bool.and_eq_false_iff, beq_iff_eq, beq_eq_false_iff_ne, ne_eq, Int.toNat_natCast] at *)) <;> first | omega | assumption)) (by (((try simp only [Bool.not_eq_true', Bool.not_eq_false', Bool.and_eq_true, Bool.and_eq_false_iff, decide_eq_true_eq, decide_eq_false_iff_not, beq_iff_eq, beq_eq_false_iff_ne, bne_iff_ne, bne_eq_false_iff_eq, ne_eq, not_and, Int.toNat_natCast] at *); (try simp only [Row.cells, Row.wrapped, Row.end_, Cell.kind, Cell.at] at *); (try simp (disch := omega) only [wrapId, toNatAdd, toNatSucc, isAt, reduceCtorEq, or_false, and_true, Bool.and_true, Bool.and_eq_true, Bool.and_eq_false_iff, beq_iff_eq, beq_eq_false_iff_ne, ne_eq, Int.toNat_natCast] at *)) <;> first | omega | assumption))) (cP h1 (cP h1 (cP h1 (cP h1 (cE (@rmLoop1 (rows) (i) (M) hs (by (((try simp only [Bool.not_eq_true', Bool.not_eq_false', Bool.and_eq_true, Bool.and_eq_false_iff, decide_eq_true_eq, decide_eq_false_iff_not, beq_iff_eq, beq_eq_false_iff_ne, bne_iff_ne, bne_eq_false_iff_eq, ne_eq, not_and, Int.toNat_natCast] at *); (try simp only [Row.cells, Row.wrapped, Row.end_, Cell.kind, Cell.at] at *); (try simp (disch := omega) only [wrapId, toNatAdd, toNatSucc, isAt, reduceCtorEq, or_false, and_true, Bool.and_true, Bool.and_eq_true, Bool.and_eq_false_iff, beq_iff_eq, beq_eq_false_iff_ne, ne_eq, Int.toNat_natCast] at *)) <;> first | omega | assumption)) hM) (cC (@rline (rows) (i) hs hr (by (((try simp only [Bool.not_eq_true', Bool.not_eq_false', Bool.and_eq_true, Bool.and_eq_false_iff, decide_eq_true_eq, decide_eq_false_iff_not, beq_iff_eq, beq_eq_false_iff_ne, bne_iff_ne, bne_eq_false_iff_eq, ne_eq, not_and, Int.toNat_natCast] at *); (try simp only [Row.cells, Row.wrapped, Row.end_, Cell.kind, Cell.at] at *); (try simp (disch := omega) only [wrapId, toNatAdd, toNatSucc, isAt, reduceCtorEq, or_false, and_true, Bool.and_true, Bool.and_eq_true, Bool.and_eq_false_iff, beq_iff_eq, beq_eq_false_iff_ne, ne_eq, Int.toNat_natCast] at *)) <;> first | omega | assumption))) (cP (@loadRow (rows) ([]) (Int.toNat (↑i : Int)) (by (((try simp only [Bool.not_eq_true', Bool.not_eq_false', Bool.and_eq_true, Bool.and_eq_false_iff, decide_eq_true_eq, decide_eq_false_iff_not, beq_iff_eq, beq_eq_false_iff_ne, bne_iff_ne, bne_eq_false_iff_eq, ne_eq, not_and, Int.toNat_natCast] at *); (try simp only [Row.cells, Row.wrapped, Row.end_, Cell.kind, Cell.at] at *); (try simp (disch := omega) only [wrapId, toNatAdd, toNatSucc, isAt, reduceCtorEq, or_false, and_true, Bool.and_true, Bool.and_eq_true, Bool.and_eq_false_iff, beq_iff_eq, beq_eq_false_iff_ne, ne_eq, Int.toNat_natCast] at *)) <;> first | omega | assumption))) (cP (@iaddrRow (rows) ((↑i : Int)) (by (((try simp only [Bool.not_eq_true', Bool.not_eq_false', Bool.and_eq_true, Bool.and_eq_false_iff, decide_eq_true_eq, decide_eq_false_iff_not, beq_iff_eq, beq_eq_false_iff_ne, bne_iff_ne, bne_eq_false_iff_eq, ne_eq, not_and, Int.toNat_natCast] at *); (try simp only [Row.cells, Row.wrapped, Row.end_, Cell.kind, Cell.at] at *); (try simp (disch := omega) only [wrapId, toNatAdd, toNatSucc, isAt, reduceCtorEq, or_false, and_true, Bool.and_true, Bool.and_eq_true, Bool.and_eq_false_iff, beq_iff_eq, beq_eq_false_iff_ne, ne_eq, Int.toNat_natCast] at *)) <;> first | omega | assumption)) (by (((try simp only [Bool.not_eq_true', Bool.not_eq_false', Bool.and_eq_true, Bool.and_eq_false_iff, decide_eq_true_eq, decide_eq_false_iff_not, beq_iff_eq, beq_eq_false_iff_ne, bne_iff_ne, bne_eq_false_iff_eq, ne_eq, not_and, Int.toNat_natCast] at *); (try simp only [Row.cells, Row.wrapped, Row.end_, Cell.kind, Cell.at] at *); (try simp (disch := omega) only [wrapId, toNatAdd, toNatSucc, isAt, reduceCtorEq, or_false, and_true, Bool.and_true, Bool.and_eq_true, Bool.and_eq_false_iff, beq_iff_eq, beq_eq_false_iff_ne, ne_eq, Int.toNat_natCast] at *)) <;> first | omega | assumption))) (cP h0 nilE))))))))))))))))) (by kernel_rfl)).to (by ((try simp (disch := omega) only [wrapId, toNatAdd, toNatSucc, goesOn, Row.wrapped] at *); (try simp only [Int.toNat_natCast, beq_iff_eq, beq_eq_false_iff_ne, bne_iff_ne, bne_eq_false_iff_eq, ne_eq, Int.natCast_eq_zero, Int.natCast_inj, Row.cells] at *); first | (simp (disch := omega) [Ty.enc, stopAt, endMark, lineMarks, lineM, lineA, lineW, Row.end_, inA, inW, inM, mk, Cell.kind, Cell.at, Row.cells, wrapId, mP, isAt, toNatPred, toNatAdd, toNatSucc, goesOn, ltF, ltT, Row.wrapped, Ty.slD, *]; done) | (subst_vars; simp (disch := omega) [Ty.enc, stopAt, endMark, lineMarks, lineM, lineA, lineW, Row.end_, inA, inW, inM, mk, Cell.kind, Cell.at, Row.cells, wrapId, mP, isAt, toNatPred, toNatAdd, toNatSucc, goesOn, ltF, ltT, Row.wrapped, Ty.slD, *]; done)))
set_option maxHeartbeats 4000000 in
theorem rmRoundB : rmRoundB_T := by
  intro rows M i hs hr hi hw hM hM2
  have h0 : (decide ((↑i : Int) < (↑(List.length rows) : Int))) = true := by (((try simp only [Bool.not_eq_true', Bool.not_eq_false', Bool.and_eq_true, Bool.and_eq_false_iff, decide_eq_true_eq, decide_eq_false_iff_not, beq_iff_eq, beq_eq_false_iff_ne, bne_iff_ne, bne_eq_false_iff_eq, ne_eq, not_and, Int.toNat_natCast] at *); (try simp only [Row.cells, Row.wrapped, Row.end_, Cell.kind, Cell.at] at *); (try simp (disch := omega) only [wrapId, toNatAdd, toNatSucc, isAt, reduceCtorEq, or_false, and_true, Bool.and_true, Bool.and_eq_true, Bool.and_eq_false_iff, beq_iff_eq, beq_eq_false_iff_ne, ne_eq, Int.toNat_natCast] at *)) <;> first | omega | assumption)
  have h1 : ((↑i : Int) == (IntKind.wrap IntKind.i64 ((↑(List.length rows) : Int) - (1 : Int)))) = false := by (((try simp only [Bool.not_eq_true', Bool.not_eq_false', Bool.and_eq_true, Bool.and_eq_false_iff, decide_eq_true_eq, decide_eq_false_iff_not, beq_iff_eq, beq_eq_false_iff_ne, bne_iff_ne, bne_eq_false_iff_eq, ne_eq, not_and, Int.toNat_natCast] at *); (try simp only [Row.cells, Row.wrapped, Row.end_, Cell.kind, Cell.at] at *); (try simp (disch := omega) only [wrapId, toNatAdd, toNatSucc, isAt, reduceCtorEq, or_false, and_true, Bool.and_true, Bool.and_eq_true, Bool.and_eq_false_iff, beq_iff_eq, beq_eq_false_iff_ne, ne_eq, Int.toNat_natCast] at *)) <;> first | omega | assumption)
  have h2 : (!(Prod.fst (Prod.snd (Prod.snd (Prod.snd (Prod.snd (Ty.nth rowT rows (Int.toNat (IntKind.wrap IntKind.i64 ((↑i : Int) + (1 : Int))))))))))) = false := by (((try simp only [Bool.not_eq_true', Bool.not_eq_false', Bool.and_eq_true, Bool.and_eq_false_iff, decide_eq_true_eq, decide_eq_false_iff_not, beq_iff_eq, beq_eq_false_iff_ne, bne_iff_ne, bne_eq_false_iff_eq, ne_eq, not_and, Int.toNat_natCast] at *); (try simp only [Row.cells, Row.wrapped, Row.end_, Cell.kind, Cell.at] at *); (try simp (disch := omega) only [wrapId, toNatAdd, toNatSucc, isAt, reduceCtorEq, or_false, and_true, Bool.and_true, Bool.and_eq_true, Bool.and_eq_false_iff, beq_iff_eq, beq_eq_false_iff_ne, ne_eq, Int.toNat_natCast] at *)) <;> first | omega | assumption)
  exact (pC (st' := { s := [((nat_lit 0), (V.d (D.sl (List.flatMap (Ty.enc rowT) rows) (List.length rows)))), ((nat_lit 3), (V.tail (nat_lit 51) (List.flatMap (Ty.enc markT) (rowMarks rows M i)) (List.length (rowMarks rows M i)))), ((nat_lit 10), (V.d (D.sl (List.flatMap (Ty.enc rowT) rows) (List.length rows)))), ((nat_lit 11), (V.d (D.int IntKind.i64 (↑(List.length rows) : Int)))), ((nat_lit 12), (V.d (D.int IntKind.i64 (IntKind.wrap IntKind.i64 ((↑i : Int) + (1 : Int))))))], h := [], og := [] }) 12 [(1, bt), (2, .v (V.d (D.ref (List.flatMap (Ty.enc rowT) rows) ((Int.toNat (↑i : Int)) * (7 : Nat))))), (3, .v (V.d (D.agg (Ty.enc rowT (Ty.nth rowT rows (Int.toNat (↑i : Int))))))), (4, .v (V.d (D.agg [(Ty.slD cellT (lineOf rows i)), (D.int IntKind.i64 (↑(aheadOf rows i) : Int))]))), (8, .l (Ex.exit (2 : Nat)) (stKx rows i (Ty.nth rowT rows i) (lineOf rows i) (aheadOf rows i) (rowMarks rows M i) (kEnd rows i))), (12, bf), (13, bf), (14, bf), (16, bf), (17, .v (V.d (D.ref (List.flatMap (Ty.enc rowT) rows) ((Int.toNat (IntKind.wrap IntKind.i64 ((↑i : Int) + (1 : Int)))) * (7 : Nat))))), (18, bf), (19, bf), (20, .v (V.d (List.getD (Ty.enc rowT (Ty.nth rowT rows (Int.toNat (IntKind.wrap IntKind.i64 ((↑i : Int) + (1 : Int)))))) (nat_lit 4) D.und))), (21, bf), (22, bf), (23, bf)] (cP h2 (cP h1 (cP h1 (cP (@loadRowB (rows) ([(Ob.cells [(V.d (D.sl (List.flatMap (Ty.enc cellT) (Prod.fst (Ty.nth rowT rows i))) (List.length (Prod.fst (Ty.nth rowT rows i))))), (V.d (D.int IntKind.i64 (Prod.fst (Prod.snd (Ty.nth rowT rows i))))), (V.d (D.int IntKind.i64 (Prod.fst (Prod.snd (Prod.snd (Ty.nth rowT rows i)))))), (V.d (D.int IntKind.i64 (Prod.fst (Prod.snd (Prod.snd (Prod.snd (Ty.nth rowT rows i))))))), (V.d (D.bool (Prod.fst (Prod.snd (Prod.snd (Prod.snd (Prod.snd (Ty.nth rowT rows i)))))))), (V.d (D.bool (Prod.fst (Prod.snd (Prod.snd (Prod.snd (Prod.snd (Prod.snd (Ty.nth rowT rows i))))))))), (V.d (D.int IntKind.i64 (Prod.fst (Prod.snd (Prod.snd (Prod.snd (Prod.snd (Prod.snd (Prod.snd (Ty.nth rowT rows i))))))))))]), (Ob.cells [(V.d (D.sl (List.flatMap (Ty.enc cellT) (lineOf rows i)) (List.length (lineOf rows i)))), (V.d (D.int IntKind.i64 (↑(aheadOf rows i) : Int)))])]) (Int.toNat (IntKind.wrap IntKind.i64 ((↑i : Int) + (1 : Int)))) (nat_lit 4) (by (((try simp only [Bool.not_eq_true', Bool.not_eq_false', Bool.and_eq_true, Bool.and_eq_false_iff, decide_eq_true_eq, decide_eq_false_iff_not, beq_iff_eq, beq_eq_false_iff_ne, bne_iff_ne, bne_eq_false_iff_eq, ne_eq, not_and, Int.toNat_natCast] at *); (try simp only [Row.cells, Row.wrapped, Row.end_, Cell.kind, Cell.at] at *); (try simp (disch := omega) only [wrapId, toNatAdd, toNatSucc, isAt, reduceCtorEq, or_false, and_true, Bool.and_true, Bool.and_eq_true, Bool.and_eq_false_iff, beq_iff_eq, beq_eq_false_iff_ne, ne_eq, Int.toNat_natCast] at *)) <;> first | omega | assumption)) (by (((try simp only [Bool.not_eq_true', Bool.not_eq_false', Bool.and_eq_true, Bool.and_eq_false_iff, decide_eq_true_eq, decide_eq_false_iff_not, beq_iff_eq, beq_eq_false_iff_ne, bne_iff_ne, bne_eq_false_iff_eq, ne_eq, not_and, Int.toNat_natCast] at *); (try simp only [Row.cells, Row.wrapped, Row.end_, Cell.kind, Cell.at] at *); (try simp (disch := omega) only [wrapId, toNatAdd, toNatSucc, isAt, reduceCtorEq, or_false, and_true, Bool.and_true, Bool.and_eq_true, Bool.and_eq_false_iff, beq_iff_eq, beq_eq_false_iff_ne, ne_eq, Int.toNat_natCast] at *)) <;> first | omega | assumption))) (cP h1 (cP h1 (cP (@iaddrRow (rows) (IntKind.wrap IntKind.i64 ((↑i : Int) + (1 : Int))) (by (((try simp only [Bool.not_eq_true', Bool.not_eq_false', Bool.and_eq_true, Bool.and_eq_false_iff, decide_eq_true_eq, decide_eq_false_iff_not, beq_iff_eq, beq_eq_false_iff_ne, bne_iff_ne, bne_eq_false_iff_eq, ne_eq, not_and, Int.toNat_natCast] at *); (try simp only [Row.cells, Row.wrapped, Row.end_, Cell.kind, Cell.at] at *); (try simp (disch := omega) only [wrapId, toNatAdd, toNatSucc, isAt, reduceCtorEq, or_false, and_true, Bool.and_true, Bool.and_eq_true, Bool.and_eq_false_iff, beq_iff_eq, beq_eq_false_iff_ne, ne_eq, Int.toNat_natCast] at *)) <;> first | omega | assumption)) (by (((try simp only [Bool.not_eq_true', Bool.not_eq_false', Bool.and_eq_true, Bool.and_eq_false_iff, decide_eq_true_eq, decide_eq_false_iff_not, beq_iff_eq, beq_eq_false_iff_ne, bne_iff_ne, bne_eq_false_iff_eq, ne_eq, not_and, Int.toNat_natCast] at *); (try simp only [Row.cells, Row.wrapped, Row.end_, Cell.kind, Cell.at] at *); (try simp (disch := omega) only [wrapId, toNatAdd, toNatSucc, isAt, reduceCtorEq, or_false, and_true, Bool.and_true, Bool.and_eq_true, Bool.and_eq_false_iff, beq_iff_eq, beq_eq_false_iff_ne, ne_eq, Int.toNat_natCast] at *)) <;> first | omega | assumption))) (cP h1 (cP h1 (cP h1 (cP h1 (cE (@rmLoop1 (rows) (i) (M) hs (by (((try simp only [Bool.not_eq_true', Bool.not_eq_false', Bool.and_eq_true, Bool.and_eq_false_iff, decide_eq_true_eq, decide_eq_false_iff_not, beq_iff_eq, beq_eq_false_iff_ne, bne_iff_ne, bne_eq_false_iff_eq, ne_eq, not_and, Int.toNat_natCast] at *); (try simp only [Row.cells, Row.wrapped, Row.end_, Cell.kind, Cell.at] at *); (try simp (disch := omega) only [wrapId, toNatAdd, toNatSucc, isAt, reduceCtorEq, or_false, and_true, Bool.and_true, Bool.and_eq_true, Bool.and_eq_false_iff, beq_iff_eq, beq_eq_false_iff_ne, ne_eq, Int.toNat_natCast] at *)) <;> first | omega | assumption)) hM) (cC (@rline (rows) (i) hs hr (by (((try simp only [Bool.not_eq_true', Bool.not_eq_false', Bool.and_eq_true, Bool.and_eq_false_iff, decide_eq_true_eq, decide_eq_false_iff_not, beq_iff_eq, beq_eq_false_iff_ne, bne_iff_ne, bne_eq_false_iff_eq, ne_eq, not_and, Int.toNat_natCast] at *); (try simp only [Row.cells, Row.wrapped, Row.end_, Cell.kind, Cell.at] at *); (try simp (disch := omega) only [wrapId, toNatAdd, toNatSucc, isAt, reduceCtorEq, or_false, and_true, Bool.and_true, Bool.and_eq_true, Bool.and_eq_false_iff, beq_iff_eq, beq_eq_false_iff_ne, ne_eq, Int.toNat_natCast] at *)) <;> first | omega | assumption))) (cP (@loadRow (rows) ([]) (Int.toNat (↑i : Int)) (by (((try simp only [Bool.not_eq_true', Bool.not_eq_false', Bool.and_eq_true, Bool.and_eq_false_iff, decide_eq_true_eq, decide_eq_false_iff_not, beq_iff_eq, beq_eq_false_iff_ne, bne_iff_ne, bne_eq_false_iff_eq, ne_eq, not_and, Int.toNat_natCast] at *); (try simp only [Row.cells, Row.wrapped, Row.end_, Cell.kind, Cell.at] at *); (try simp (disch := omega) only [wrapId, toNatAdd, toNatSucc, isAt, reduceCtorEq, or_false, and_true, Bool.and_true, Bool.and_eq_true, Bool.and_eq_false_iff, beq_iff_eq, beq_eq_false_iff_ne, ne_eq, Int.toNat_natCast] at *)) <;> first | omega | assumption))) (cP (@iaddrRow (rows) ((↑i : Int)) (by (((try simp only [Bool.not_eq_true', Bool.not_eq_false', Bool.and_eq_true, Bool.and_eq_false_iff, decide_eq_true_eq, decide_eq_false_iff_not, beq_iff_eq, beq_eq_false_iff_ne, bne_iff_ne, bne_eq_false_iff_eq, ne_eq, not_and, Int.toNat_natCast] at *); (try simp only [Row.cells, Row.wrapped, Row.end_, Cell.kind, Cell.at] at *); (try simp (disch := omega) only [wrapId, toNatAdd, toNatSucc, isAt, reduceCtorEq, or_false, and_true, Bool.and_true, Bool.and_eq_true, Bool.and_eq_false_iff, beq_iff_eq, beq_eq_false_iff_ne, ne_eq, Int.toNat_natCast] at *)) <;> first | omega | assumption)) (by (((try simp only [Bool.not_eq_true', Bool.not_eq_false', Bool.and_eq_true, Bool.and_eq_false_iff, decide_eq_true_eq, decide_eq_false_iff_not, beq_iff_eq, beq_eq_false_iff_ne, bne_iff_ne, bne_eq_false_iff_eq, ne_eq, not_and, Int.toNat_natCast] at *); (try simp only [Row.cells, Row.wrapped, Row.end_, Cell.kind, Cell.at] at *); (try simp (disch := omega) only [wrapId, toNatAdd, toNatSucc, isAt, reduceCtorEq, or_false, and_true, Bool.and_true, Bool.and_eq_true, Bool.and_eq_false_iff, beq_iff_eq, beq_eq_false_iff_ne, ne_eq, Int.toNat_natCast] at *)) <;> first | omega | assumption))) (cP h0 nilE)))))))))))))))) (by kernel_rfl)).to (by ((try simp (disch := omega) only [wrapId, toNatAdd, toNatSucc, goesOn, Row.wrapped] at *); (try simp only [Int.toNat_natCast, beq_iff_eq, beq_eq_false_iff_ne, bne_iff_ne, bne_eq_false_iff_eq, ne_eq, Int.natCast_eq_zero, Int.natCast_inj, Row.cells] at *); first | (simp (disch := omega) [Ty.enc, stopAt, endMark, lineMarks, lineM, lineA, lineW, Row.end_, inA, inW, inM, mk, Cell.kind, Cell.at, Row.cells, wrapId, mP, isAt, toNatPred, toNatAdd, toNatSucc, goesOn, ltF, ltT, Row.wrapped, Ty.slD, *]; done) | (subst_vars; simp (disch := omega) [Ty.enc, stopAt, endMark, lineMarks, lineM, lineA, lineW, Row.end_, inA, inW, inM, mk, Cell.kind, Cell.at, Row.cells, wrapId, mP, isAt, toNatPred, toNatAdd, toNatSucc, goesOn, ltF, ltT, Row.wrapped, Ty.slD, *]; done)))
set_option maxHeartbeats 4000000 in
theorem rmExit0 : rmExit0_T := by
  intro rows M
  have h0 : (decide ((↑(List.length rows) : Int) < (↑(List.length rows) : Int))) = false := by (((try simp only [Bool.not_eq_true', Bool.not_eq_false', Bool.and_eq_true, Bool.and_eq_false_iff, decide_eq_true_eq, decide_eq_false_iff_not, beq_iff_eq, beq_eq_false_iff_ne, bne_iff_ne, bne_eq_false_iff_eq, ne_eq, not_and, Int.toNat_natCast] at *); (try simp only [Row.cells, Row.wrapped, Row.end_, Cell.kind, Cell.at] at *); (try simp (disch := omega) only [wrapId, toNatAdd, toNatSucc, isAt, reduceCtorEq, or_false, and_true, Bool.and_true, Bool.and_eq_true, Bool.and_eq_false_iff, beq_iff_eq, beq_eq_false_iff_ne, ne_eq, Int.toNat_natCast] at *)) <;> first | omega | assumption)
  exact pR 12 [(1, bf)] (cP h0 nilE) (by kernel_rfl)
set_option maxHeartbeats 4000000 in
theorem sameRound : sameRound_T := by
  intro l m i hl hi hm e1 e2
  have h0 : (decide ((↑i : Int) < (↑(List.length l) : Int))) = true := by (((try simp only [eq_self, and_true, true_and, Bool.and_true, Bool.true_and, Bool.not_eq_true', Bool.not_eq_false', Bool.and_eq_true, Bool.and_eq_false_iff, decide_eq_true_eq, decide_eq_false_iff_not, beq_iff_eq, beq_eq_false_iff_ne, bne_iff_ne, bne_eq_false_iff_eq, ne_eq, not_and, Int.toNat_natCast] at *); (try simp only [Row.cells, Row.wrapped, Row.end_, Cell.kind, Cell.at] at *); (try simp (disch := omega) only [wrapId, toNatAdd, toNatSucc, isAt, reduceCtorEq, or_false, and_true, Bool.and_true, Bool.and_eq_true, Bool.and_eq_false_iff, beq_iff_eq, beq_eq_false_iff_ne, ne_eq, Int.toNat_natCast] at *)) <;> first | omega | assumption | (refine ⟨?_, ?_⟩ <;> assumption))
  have h1 : (decide ((↑i : Int) ≥ (↑(List.length m) : Int))) = false := by (((try simp only [eq_self, and_true, true_and, Bool.and_true, Bool.true_and, Bool.not_eq_true', Bool.not_eq_false', Bool.and_eq_true, Bool.and_eq_false_iff, decide_eq_true_eq, decide_eq_false_iff_not, beq_iff_eq, beq_eq_false_iff_ne, bne_iff_ne, bne_eq_false_iff_eq, ne_eq, not_and, Int.toNat_natCast] at *); (try simp only [Row.cells, Row.wrapped, Row.end_, Cell.kind, Cell.at] at *); (try simp (disch := omega) only [wrapId, toNatAdd, toNatSucc, isAt, reduceCtorEq, or_false, and_true, Bool.and_true, Bool.and_eq_true, Bool.and_eq_false_iff, beq_iff_eq, beq_eq_false_iff_ne, ne_eq, Int.toNat_natCast] at *)) <;> first | omega | assumption | (refine ⟨?_, ?_⟩ <;> assumption))
  have h2 : (!(((Prod.fst (Ty.nth pointT l (Int.toNat (↑i : Int)))) == (Prod.fst (Ty.nth markT m (Int.toNat (↑i : Int))))) && (((Prod.fst (Prod.snd (Ty.nth pointT l (Int.toNat (↑i : Int))))) == (Prod.fst (Prod.snd (Ty.nth markT m (Int.toNat (↑i : Int)))))) && true))) = false := by (((try simp only [eq_self, and_true, true_and, Bool.and_true, Bool.true_and, Bool.not_eq_true', Bool.not_eq_false', Bool.and_eq_true, Bool.and_eq_false_iff, decide_eq_true_eq, decide_eq_false_iff_not, beq_iff_eq, beq_eq_false_iff_ne, bne_iff_ne, bne_eq_false_iff_eq, ne_eq, not_and, Int.toNat_natCast] at *); (try simp only [Row.cells, Row.wrapped, Row.end_, Cell.kind, Cell.at] at *); (try simp (disch := omega) only [wrapId, toNatAdd, toNatSucc, isAt, reduceCtorEq, or_false, and_true, Bool.and_true, Bool.and_eq_true, Bool.and_eq_false_iff, beq_iff_eq, beq_eq_false_iff_ne, ne_eq, Int.toNat_natCast] at *)) <;> first | omega | assumption | (refine ⟨?_, ?_⟩ <;> assumption))
  exact (pC (st' := { s := [((nat_lit 0), (V.d (D.sl (List.flatMap (Ty.enc pointT) l) (List.length l)))), ((nat_lit 1), (V.d (D.sl (List.flatMap (Ty.enc markT) m) (List.length m)))), ((nat_lit 7), (V.d (D.int IntKind.i64 (↑(List.length l) : Int)))), ((nat_lit 8), (V.d (D.int IntKind.i64 (IntKind.wrap IntKind.i64 ((↑i : Int) + (1 : Int))))))], h := [], og := [] }) 12 [(1, bt), (4, bf), (5, bf), (6, bf), (7, .v (V.d (D.ref (List.flatMap (Ty.enc pointT) l) ((Int.toNat (↑i : Int)) * (2 : Nat))))), (8, bf), (9, .v (V.d (D.agg (Ty.enc pointT (Ty.nth pointT l (Int.toNat (↑i : Int))))))), (10, bf), (11, bf), (12, bf), (13, .v (V.d (D.ref (List.flatMap (Ty.enc markT) m) ((Int.toNat (↑i : Int)) * (4 : Nat))))), (14, bf), (15, bf), (16, .v (V.d (D.agg [(D.int IntKind.i64 (Prod.fst (Ty.nth markT m (Int.toNat (↑i : Int))))), (D.int IntKind.i64 (Prod.fst (Prod.snd (Ty.nth markT m (Int.toNat (↑i : Int))))))]))), (17, bf), (19, bf), (20, bf)] (cP h2 (cP h1 (cP h1 (cP (@loadRMarkP (m) ([]) (Int.toNat (↑i : Int)) (by (((try simp only [eq_self, and_true, true_and, Bool.and_true, Bool.true_and, Bool.not_eq_true', Bool.not_eq_false', Bool.and_eq_true, Bool.and_eq_false_iff, decide_eq_true_eq, decide_eq_false_iff_not, beq_iff_eq, beq_eq_false_iff_ne, bne_iff_ne, bne_eq_false_iff_eq, ne_eq, not_and, Int.toNat_natCast] at *); (try simp only [Row.cells, Row.wrapped, Row.end_, Cell.kind, Cell.at] at *); (try simp (disch := omega) only [wrapId, toNatAdd, toNatSucc, isAt, reduceCtorEq, or_false, and_true, Bool.and_true, Bool.and_eq_true, Bool.and_eq_false_iff, beq_iff_eq, beq_eq_false_iff_ne, ne_eq, Int.toNat_natCast] at *)) <;> first | omega | assumption | (refine ⟨?_, ?_⟩ <;> assumption)))) (cP h1 (cP h1 (cP (@iaddrRMark (m) ((↑i : Int)) (by (((try simp only [eq_self, and_true, true_and, Bool.and_true, Bool.true_and, Bool.not_eq_true', Bool.not_eq_false', Bool.and_eq_true, Bool.and_eq_false_iff, decide_eq_true_eq, decide_eq_false_iff_not, beq_iff_eq, beq_eq_false_iff_ne, bne_iff_ne, bne_eq_false_iff_eq, ne_eq, not_and, Int.toNat_natCast] at *); (try simp only [Row.cells, Row.wrapped, Row.end_, Cell.kind, Cell.at] at *); (try simp (disch := omega) only [wrapId, toNatAdd, toNatSucc, isAt, reduceCtorEq, or_false, and_true, Bool.and_true, Bool.and_eq_true, Bool.and_eq_false_iff, beq_iff_eq, beq_eq_false_iff_ne, ne_eq, Int.toNat_natCast] at *)) <;> first | omega | assumption | (refine ⟨?_, ?_⟩ <;> assumption))) (by (((try simp only [eq_self, and_true, true_and, Bool.and_true, Bool.true_and, Bool.not_eq_true', Bool.not_eq_false', Bool.and_eq_true, Bool.and_eq_false_iff, decide_eq_true_eq, decide_eq_false_iff_not, beq_iff_eq, beq_eq_false_iff_ne, bne_iff_ne, bne_eq_false_iff_eq, ne_eq, not_and, Int.toNat_natCast] at *); (try simp only [Row.cells, Row.wrapped, Row.end_, Cell.kind, Cell.at] at *); (try simp (disch := omega) only [wrapId, toNatAdd, toNatSucc, isAt, reduceCtorEq, or_false, and_true, Bool.and_true, Bool.and_eq_true, Bool.and_eq_false_iff, beq_iff_eq, beq_eq_false_iff_ne, ne_eq, Int.toNat_natCast] at *)) <;> first | omega | assumption | (refine ⟨?_, ?_⟩ <;> assumption)))) (cP h1 (cP h1 (cP h1 (cP (@loadPoint (l) ([]) (Int.toNat (↑i : Int)) (by (((try simp only [eq_self, and_true, true_and, Bool.and_true, Bool.true_and, Bool.not_eq_true', Bool.not_eq_false', Bool.and_eq_true, Bool.and_eq_false_iff, decide_eq_true_eq, decide_eq_false_iff_not, beq_iff_eq, beq_eq_false_iff_ne, bne_iff_ne, bne_eq_false_iff_eq, ne_eq, not_and, Int.toNat_natCast] at *); (try simp only [Row.cells, Row.wrapped, Row.end_, Cell.kind, Cell.at] at *); (try simp (disch := omega) only [wrapId, toNatAdd, toNatSucc, isAt, reduceCtorEq, or_false, and_true, Bool.and_true, Bool.and_eq_true, Bool.and_eq_false_iff, beq_iff_eq, beq_eq_false_iff_ne, ne_eq, Int.toNat_natCast] at *)) <;> first | omega | assumption | (refine ⟨?_, ?_⟩ <;> assumption)))) (cP h1 (cP (@iaddrPoint (l) ((↑i : Int)) (by (((try simp only [eq_self, and_true, true_and, Bool.and_true, Bool.true_and, Bool.not_eq_true', Bool.not_eq_false', Bool.and_eq_true, Bool.and_eq_false_iff, decide_eq_true_eq, decide_eq_false_iff_not, beq_iff_eq, beq_eq_false_iff_ne, bne_iff_ne, bne_eq_false_iff_eq, ne_eq, not_and, Int.toNat_natCast] at *); (try simp only [Row.cells, Row.wrapped, Row.end_, Cell.kind, Cell.at] at *); (try simp (disch := omega) only [wrapId, toNatAdd, toNatSucc, isAt, reduceCtorEq, or_false, and_true, Bool.and_true, Bool.and_eq_true, Bool.and_eq_false_iff, beq_iff_eq, beq_eq_false_iff_ne, ne_eq, Int.toNat_natCast] at *)) <;> first | omega | assumption | (refine ⟨?_, ?_⟩ <;> assumption))) (by (((try simp only [eq_self, and_true, true_and, Bool.and_true, Bool.true_and, Bool.not_eq_true', Bool.not_eq_false', Bool.and_eq_true, Bool.and_eq_false_iff, decide_eq_true_eq, decide_eq_false_iff_not, beq_iff_eq, beq_eq_false_iff_ne, bne_iff_ne, bne_eq_false_iff_eq, ne_eq, not_and, Int.toNat_natCast] at *); (try simp only [Row.cells, Row.wrapped, Row.end_, Cell.kind, Cell.at] at *); (try simp (disch := omega) only [wrapId, toNatAdd, toNatSucc, isAt, reduceCtorEq, or_false, and_true, Bool.and_true, Bool.and_eq_true, Bool.and_eq_false_iff, beq_iff_eq, beq_eq_false_iff_ne, ne_eq, Int.toNat_natCast] at *)) <;> first | omega | assumption | (refine ⟨?_, ?_⟩ <;> assumption)))) (cP h1 (cP h1 (cP h1 (cP h0 nilE))))))))))))))))) (by kernel_rfl)).to (by ((try simp (disch := omega) only [wrapId, toNatAdd, toNatSucc, goesOn, Row.wrapped] at *); (try simp only [Int.toNat_natCast, beq_iff_eq, beq_eq_false_iff_ne, bne_iff_ne, bne_eq_false_iff_eq, ne_eq, Int.natCast_eq_zero, Int.natCast_inj, Row.cells] at *); first | (simp (disch := omega) [Ty.enc, stopAt, endMark, lineMarks, lineM, lineA, lineW, Row.end_, inA, inW, inM, mk, Cell.kind, Cell.at, Row.cells, wrapId, mP, isAt, toNatPred, toNatAdd, toNatSucc, goesOn, ltF, ltT, Row.wrapped, Ty.slD, *]; done) | (subst_vars; simp (disch := omega) [Ty.enc, stopAt, endMark, lineMarks, lineM, lineA, lineW, Row.end_, inA, inW, inM, mk, Cell.kind, Cell.at, Row.cells, wrapId, mP, isAt, toNatPred, toNatAdd, toNatSucc, goesOn, ltF, ltT, Row.wrapped, Ty.slD, *]; done)))
set_option maxHeartbeats 4000000 in
theorem sameExit : sameExit_T := by
  intro l m
  have h0 : (decide ((↑(List.length l) : Int) < (↑(List.length l) : Int))) = false := by (((try simp only [Bool.not_eq_true', Bool.not_eq_false', Bool.and_eq_true, Bool.and_eq_false_iff, decide_eq_true_eq, decide_eq_false_iff_not, beq_iff_eq, beq_eq_false_iff_ne, bne_iff_ne, bne_eq_false_iff_eq, ne_eq, not_and, Int.toNat_natCast] at *); (try simp only [Row.cells, Row.wrapped, Row.end_, Cell.kind, Cell.at] at *); (try simp (disch := omega) only [wrapId, toNatAdd, toNatSucc, isAt, reduceCtorEq, or_false, and_true, Bool.and_true, Bool.and_eq_true, Bool.and_eq_false_iff, beq_iff_eq, beq_eq_false_iff_ne, ne_eq, Int.toNat_natCast] at *)) <;> first | omega | assumption)
  exact pR 12 [(1, bf)] (cP h0 nilE) (by kernel_rfl)
set_option maxHeartbeats 4000000 in
theorem plRound : plRound_T := by
  intro m p i hl hi hm
  have h0 : (decide ((↑i : Int) < (↑(List.length m) : Int))) = true := by (((try simp only [Bool.not_eq_true', Bool.not_eq_false', Bool.and_eq_true, Bool.and_eq_false_iff, decide_eq_true_eq, decide_eq_false_iff_not, beq_iff_eq, beq_eq_false_iff_ne, bne_iff_ne, bne_eq_false_iff_eq, ne_eq, not_and, Int.toNat_natCast] at *); (try simp only [Row.cells, Row.wrapped, Row.end_, Cell.kind, Cell.at] at *); (try simp (disch := omega) only [wrapId, toNatAdd, toNatSucc, isAt, reduceCtorEq, or_false, and_true, Bool.and_true, Bool.and_eq_true, Bool.and_eq_false_iff, beq_iff_eq, beq_eq_false_iff_ne, ne_eq, Int.toNat_natCast] at *)) <;> first | omega | assumption)
  have h1 : (((Prod.fst (Ty.nth markT m (Int.toNat (↑i : Int)))) == (Prod.fst p)) && (((Prod.fst (Prod.snd (Ty.nth markT m (Int.toNat (↑i : Int))))) == (Prod.fst (Prod.snd p))) && true)) = false := by (((try simp only [Bool.not_eq_true', Bool.not_eq_false', Bool.and_eq_true, Bool.and_eq_false_iff, decide_eq_true_eq, decide_eq_false_iff_not, beq_iff_eq, beq_eq_false_iff_ne, bne_iff_ne, bne_eq_false_iff_eq, ne_eq, not_and, Int.toNat_natCast] at *); (try simp only [Row.cells, Row.wrapped, Row.end_, Cell.kind, Cell.at] at *); (try simp (disch := omega) only [wrapId, toNatAdd, toNatSucc, isAt, reduceCtorEq, or_false, and_true, Bool.and_true, Bool.and_eq_true, Bool.and_eq_false_iff, beq_iff_eq, beq_eq_false_iff_ne, ne_eq, Int.toNat_natCast] at *)) <;> first | omega | assumption)
  exact (pC (st' := { s := [((nat_lit 3), (V.obj (nat_lit 0) (nat_lit 0))), ((nat_lit 8), (V.d (D.sl (List.flatMap (Ty.enc markT) m) (List.length m)))), ((nat_lit 9), (V.d (D.int IntKind.i64 (↑(List.length m) : Int)))), ((nat_lit 10), (V.d (D.int IntKind.i64 (IntKind.wrap IntKind.i64 ((↑i : Int) + (1 : Int))))))], h := [(Ob.cells [(V.d (D.int IntKind.i64 (Prod.fst p))), (V.d (D.int IntKind.i64 (Prod.fst (Prod.snd p))))])], og := [] }) 12 [(1, bt), (2, .v (V.d (D.ref (List.flatMap (Ty.enc markT) m) ((Int.toNat (↑i : Int)) * (4 : Nat))))), (3, .v (V.d (D.agg (Ty.enc markT (Ty.nth markT m (Int.toNat (↑i : Int))))))), (7, bf)] (cP h1 (cP (@loadRMark (m) ([(Ob.cells [(V.d (D.int IntKind.i64 (Prod.fst p))), (V.d (D.int IntKind.i64 (Prod.fst (Prod.snd p))))])]) (Int.toNat (↑i : Int)) (by (((try simp only [Bool.not_eq_true', Bool.not_eq_false', Bool.and_eq_true, Bool.and_eq_false_iff, decide_eq_true_eq, decide_eq_false_iff_not, beq_iff_eq, beq_eq_false_iff_ne, bne_iff_ne, bne_eq_false_iff_eq, ne_eq, not_and, Int.toNat_natCast] at *); (try simp only [Row.cells, Row.wrapped, Row.end_, Cell.kind, Cell.at] at *); (try simp (disch := omega) only [wrapId, toNatAdd, toNatSucc, isAt, reduceCtorEq, or_false, and_true, Bool.and_true, Bool.and_eq_true, Bool.and_eq_false_iff, beq_iff_eq, beq_eq_false_iff_ne, ne_eq, Int.toNat_natCast] at *)) <;> first | omega | assumption))) (cP (@iaddrRMark (m) ((↑i : Int)) (by (((try simp only [Bool.not_eq_true', Bool.not_eq_false', Bool.and_eq_true, Bool.and_eq_false_iff, decide_eq_true_eq, decide_eq_false_iff_not, beq_iff_eq, beq_eq_false_iff_ne, bne_iff_ne, bne_eq_false_iff_eq, ne_eq, not_and, Int.toNat_natCast] at *); (try simp only [Row.cells, Row.wrapped, Row.end_, Cell.kind, Cell.at] at *); (try simp (disch := omega) only [wrapId, toNatAdd, toNatSucc, isAt, reduceCtorEq, or_false, and_true, Bool.and_true, Bool.and_eq_true, Bool.and_eq_false_iff, beq_iff_eq, beq_eq_false_iff_ne, ne_eq, Int.toNat_natCast] at *)) <;> first | omega | assumption)) (by (((try simp only [Bool.not_eq_true', Bool.not_eq_false', Bool.and_eq_true, Bool.and_eq_false_iff, decide_eq_true_eq, decide_eq_false_iff_not, beq_iff_eq, beq_eq_false_iff_ne, bne_iff_ne, bne_eq_false_iff_eq, ne_eq, not_and, Int.toNat_natCast] at *); (try simp only [Row.cells, Row.wrapped, Row.end_, Cell.kind, Cell.at] at *); (try simp (disch := omega) only [wrapId, toNatAdd, toNatSucc, isAt, reduceCtorEq, or_false, and_true, Bool.and_true, Bool.and_eq_true, Bool.and_eq_false_iff, beq_iff_eq, beq_eq_false_iff_ne, ne_eq, Int.toNat_natCast] at *)) <;> first | omega | assumption))) (cP h0 nilE)))) (by kernel_rfl)).to (by ((try simp (disch := omega) only [wrapId, toNatAdd, toNatSucc, goesOn, Row.wrapped] at *); (try simp only [Int.toNat_natCast, beq_iff_eq, beq_eq_false_iff_ne, bne_iff_ne, bne_eq_false_iff_eq, ne_eq, Int.natCast_eq_zero, Int.natCast_inj, Row.cells] at *); first | (simp (disch := omega) [Ty.enc, stopAt, endMark, lineMarks, lineM, lineA, lineW, Row.end_, inA, inW, inM, mk, Cell.kind, Cell.at, Row.cells, wrapId, mP, isAt, toNatPred, toNatAdd, toNatSucc, goesOn, ltF, ltT, Row.wrapped, Ty.slD, *]; done) | (subst_vars; simp (disch := omega) [Ty.enc, stopAt, endMark, lineMarks, lineM, lineA, lineW, Row.end_, inA, inW, inM, mk, Cell.kind, Cell.at, Row.cells, wrapId, mP, isAt, toNatPred, toNatAdd, toNatSucc, goesOn, ltF, ltT, Row.wrapped, Ty.slD, *]; done)))
set_option maxHeartbeats 4000000 in
theorem plHit : plHit_T := by
  intro m p i hl hi hm
  have h0 : (decide ((↑i : Int) < (↑(List.length m) : Int))) = true := by (((try simp only [Bool.not_eq_true', Bool.not_eq_false', Bool.and_eq_true, Bool.and_eq_false_iff, decide_eq_true_eq, decide_eq_false_iff_not, beq_iff_eq, beq_eq_false_iff_ne, bne_iff_ne, bne_eq_false_iff_eq, ne_eq, not_and, Int.toNat_natCast] at *); (try simp only [Row.cells, Row.wrapped, Row.end_, Cell.kind, Cell.at] at *); (try simp (disch := omega) only [wrapId, toNatAdd, toNatSucc, isAt, reduceCtorEq, or_false, and_true, Bool.and_true, Bool.and_eq_true, Bool.and_eq_false_iff, beq_iff_eq, beq_eq_false_iff_ne, ne_eq, Int.toNat_natCast] at *)) <;> first | omega | assumption)
  have h1 : (((Prod.fst (Ty.nth markT m (Int.toNat (↑i : Int)))) == (Prod.fst p)) && (((Prod.fst (Prod.snd (Ty.nth markT m (Int.toNat (↑i : Int))))) == (Prod.fst (Prod.snd p))) && true)) = true := by (((try simp only [Bool.not_eq_true', Bool.not_eq_false', Bool.and_eq_true, Bool.and_eq_false_iff, decide_eq_true_eq, decide_eq_false_iff_not, beq_iff_eq, beq_eq_false_iff_ne, bne_iff_ne, bne_eq_false_iff_eq, ne_eq, not_and, Int.toNat_natCast] at *); (try simp only [Row.cells, Row.wrapped, Row.end_, Cell.kind, Cell.at] at *); (try simp (disch := omega) only [wrapId, toNatAdd, toNatSucc, isAt, reduceCtorEq, or_false, and_true, Bool.and_true, Bool.and_eq_true, Bool.and_eq_false_iff, beq_iff_eq, beq_eq_false_iff_ne, ne_eq, Int.toNat_natCast] at *)) <;> first | omega | assumption)
  exact pR 12 [(1, bt), (2, .v (V.d (D.ref (List.flatMap (Ty.enc markT) m) ((Int.toNat (↑i : Int)) * (4 : Nat))))), (3, .v (V.d (D.agg (Ty.enc markT (Ty.nth markT m (Int.toNat (↑i : Int))))))), (7, bt)] (cP h1 (cP (@loadRMark (m) ([(Ob.cells [(V.d (D.int IntKind.i64 (Prod.fst p))), (V.d (D.int IntKind.i64 (Prod.fst (Prod.snd p))))])]) (Int.toNat (↑i : Int)) (by (((try simp only [Bool.not_eq_true', Bool.not_eq_false', Bool.and_eq_true, Bool.and_eq_false_iff, decide_eq_true_eq, decide_eq_false_iff_not, beq_iff_eq, beq_eq_false_iff_ne, bne_iff_ne, bne_eq_false_iff_eq, ne_eq, not_and, Int.toNat_natCast] at *); (try simp only [Row.cells, Row.wrapped, Row.end_, Cell.kind, Cell.at] at *); (try simp (disch := omega) only [wrapId, toNatAdd, toNatSucc, isAt, reduceCtorEq, or_false, and_true, Bool.and_true, Bool.and_eq_true, Bool.and_eq_false_iff, beq_iff_eq, beq_eq_false_iff_ne, ne_eq, Int.toNat_natCast] at *)) <;> first | omega | assumption))) (cP (@iaddrRMark (m) ((↑i : Int)) (by (((try simp only [Bool.not_eq_true', Bool.not_eq_false', Bool.and_eq_true, Bool.and_eq_false_iff, decide_eq_true_eq, decide_eq_false_iff_not, beq_iff_eq, beq_eq_false_iff_ne, bne_iff_ne, bne_eq_false_iff_eq, ne_eq, not_and, Int.toNat_natCast] at *); (try simp only [Row.cells, Row.wrapped, Row.end_, Cell.kind, Cell.at] at *); (try simp (disch := omega) only [wrapId, toNatAdd, toNatSucc, isAt, reduceCtorEq, or_false, and_true, Bool.and_true, Bool.and_eq_true, Bool.and_eq_false_iff, beq_iff_eq, beq_eq_false_iff_ne, ne_eq, Int.toNat_natCast] at *)) <;> first | omega | assumption)) (by (((try simp only [Bool.not_eq_true', Bool.not_eq_false', Bool.and_eq_true, Bool.and_eq_false_iff, decide_eq_true_eq, decide_eq_false_iff_not, beq_iff_eq, beq_eq_false_iff_ne, bne_iff_ne, bne_eq_false_iff_eq, ne_eq, not_and, Int.toNat_natCast] at *); (try simp only [Row.cells, Row.wrapped, Row.end_, Cell.kind, Cell.at] at *); (try simp (disch := omega) only [wrapId, toNatAdd, toNatSucc, isAt, reduceCtorEq, or_false, and_true, Bool.and_true, Bool.and_eq_true, Bool.and_eq_false_iff, beq_iff_eq, beq_eq_false_iff_ne, ne_eq, Int.toNat_natCast] at *)) <;> first | omega | assumption))) (cP h0 nilE)))) (by kernel_rfl)
set_option maxHeartbeats 4000000 in
theorem inRound : inRound_T := by
  intro rows p m n e b i hm hi
  have h0 : (decide ((↑i : Int) < (↑(List.length m) : Int))) = true := by (((try simp only [Bool.not_eq_true', Bool.not_eq_false', Bool.and_eq_true, Bool.and_eq_false_iff, decide_eq_true_eq, decide_eq_false_iff_not, beq_iff_eq, beq_eq_false_iff_ne, bne_iff_ne, bne_eq_false_iff_eq, ne_eq, not_and, Int.toNat_natCast] at *); (try simp only [Row.cells, Row.wrapped, Row.end_, Cell.kind, Cell.at] at *); (try simp (disch := omega) only [wrapId, toNatAdd, toNatSucc, isAt, reduceCtorEq, or_false, and_true, Bool.and_true, Bool.and_eq_true, Bool.and_eq_false_iff, beq_iff_eq, beq_eq_false_iff_ne, ne_eq, Int.toNat_natCast] at *)) <;> first | omega | assumption)
  rcases Bool.eq_false_or_eq_true (b) with h1 | h1
  · exact (pC (st' := { s := [((nat_lit 0), (V.d (D.sl (List.flatMap (Ty.enc rowT) rows) (List.length rows)))), ((nat_lit 3), (V.obj (nat_lit 0) (nat_lit 0))), ((nat_lit 5), (V.d (D.sl (List.flatMap (Ty.enc markT) m) (List.length m)))), ((nat_lit 6), (V.d (D.int IntKind.i64 n))), ((nat_lit 7), (V.d (D.int IntKind.i64 e))), ((nat_lit 8), (V.d (D.bool true))), ((nat_lit 22), (V.d (D.sl (List.flatMap (Ty.enc markT) m) (List.length m)))), ((nat_lit 23), (V.d (D.int IntKind.i64 (↑(List.length m) : Int)))), ((nat_lit 24), (V.d (D.int IntKind.i64 (IntKind.wrap IntKind.i64 ((↑i : Int) + (1 : Int))))))], h := [(Ob.cells [(V.d (D.int IntKind.i64 (Prod.fst p))), (V.d (D.int IntKind.i64 (Prod.fst (Prod.snd p))))])], og := [] }) 12 [(1, bt), (2, .v (V.d (D.ref (List.flatMap (Ty.enc markT) m) ((Int.toNat (↑i : Int)) * (4 : Nat))))), (3, .v (V.d (D.agg (Ty.enc markT (Ty.nth markT m (Int.toNat (↑i : Int))))))), (4, bt), (5, bt), (6, bt), (7, bt), (8, bt)] (cP h1 (cP h1 (cP h1 (cP h1 (cP h1 (cP (@loadRMark (m) ([(Ob.cells [(V.d (D.int IntKind.i64 (Prod.fst p))), (V.d (D.int IntKind.i64 (Prod.fst (Prod.snd p))))])]) (Int.toNat (↑i : Int)) (by (((try simp only [Bool.not_eq_true', Bool.not_eq_false', Bool.and_eq_true, Bool.and_eq_false_iff, decide_eq_true_eq, decide_eq_false_iff_not, beq_iff_eq, beq_eq_false_iff_ne, bne_iff_ne, bne_eq_false_iff_eq, ne_eq, not_and, Int.toNat_natCast] at *); (try simp only [Row.cells, Row.wrapped, Row.end_, Cell.kind, Cell.at] at *); (try simp (disch := omega) only [wrapId, toNatAdd, toNatSucc, isAt, reduceCtorEq, or_false, and_true, Bool.and_true, Bool.and_eq_true, Bool.and_eq_false_iff, beq_iff_eq, beq_eq_false_iff_ne, ne_eq, Int.toNat_natCast] at *)) <;> first | omega | assumption))) (cP (@iaddrRMark (m) ((↑i : Int)) (by (((try simp only [Bool.not_eq_true', Bool.not_eq_false', Bool.and_eq_true, Bool.and_eq_false_iff, decide_eq_true_eq, decide_eq_false_iff_not, beq_iff_eq, beq_eq_false_iff_ne, bne_iff_ne, bne_eq_false_iff_eq, ne_eq, not_and, Int.toNat_natCast] at *); (try simp only [Row.cells, Row.wrapped, Row.end_, Cell.kind, Cell.at] at *); (try simp (disch := omega) only [wrapId, toNatAdd, toNatSucc, isAt, reduceCtorEq, or_false, and_true, Bool.and_true, Bool.and_eq_true, Bool.and_eq_false_iff, beq_iff_eq, beq_eq_false_iff_ne, ne_eq, Int.toNat_natCast] at *)) <;> first | omega | assumption)) (by (((try simp only [Bool.not_eq_true', Bool.not_eq_false', Bool.and_eq_true, Bool.and_eq_false_iff, decide_eq_true_eq, decide_eq_false_iff_not, beq_iff_eq, beq_eq_false_iff_ne, bne_iff_ne, bne_eq_false_iff_eq, ne_eq, not_and, Int.toNat_natCast] at *); (try simp only [Row.cells, Row.wrapped, Row.end_, Cell.kind, Cell.at] at *); (try simp (disch := omega) only [wrapId, toNatAdd, toNatSucc, isAt, reduceCtorEq, or_false, and_true, Bool.and_true, Bool.and_eq_true, Bool.and_eq_false_iff, beq_iff_eq, beq_eq_false_iff_ne, ne_eq, Int.toNat_natCast] at *)) <;> first | omega | assumption))) (cP h0 nilE)))))))) (by kernel_rfl)).to (by ((try simp (disch := omega) only [wrapId, toNatAdd, toNatSucc, goesOn, Row.wrapped] at *); (try simp only [Int.toNat_natCast, beq_iff_eq, beq_eq_false_iff_ne, bne_iff_ne, bne_eq_false_iff_eq, ne_eq, Int.natCast_eq_zero, Int.natCast_inj, Row.cells] at *); first | (simp (disch := omega) [Ty.enc, stopAt, endMark, lineMarks, lineM, lineA, lineW, Row.end_, inA, inW, inM, mk, Cell.kind, Cell.at, Row.cells, wrapId, mP, isAt, toNatPred, toNatAdd, toNatSucc, goesOn, ltF, ltT, Row.wrapped, Ty.slD, *]; done) | (subst_vars; simp (disch := omega) [Ty.enc, stopAt, endMark, lineMarks, lineM, lineA, lineW, Row.end_, inA, inW, inM, mk, Cell.kind, Cell.at, Row.cells, wrapId, mP, isAt, toNatPred, toNatAdd, toNatSucc, goesOn, ltF, ltT, Row.wrapped, Ty.slD, *]; done)))
  · exact (pC (st' := { s := [((nat_lit 0), (V.d (D.sl (List.flatMap (Ty.enc rowT) rows) (List.length rows)))), ((nat_lit 3), (V.obj (nat_lit 0) (nat_lit 0))), ((nat_lit 5), (V.d (D.sl (List.flatMap (Ty.enc markT) m) (List.length m)))), ((nat_lit 6), (V.d (D.int IntKind.i64 n))), ((nat_lit 7), (V.d (D.int IntKind.i64 e))), ((nat_lit 8), (V.d (D.bool (((Prod.fst (Ty.nth markT m (Int.toNat (↑i : Int)))) == (Prod.fst p)) && (((Prod.fst (Prod.snd (Ty.nth markT m (Int.toNat (↑i : Int))))) == (Prod.fst (Prod.snd p))) && true))))), ((nat_lit 22), (V.d (D.sl (List.flatMap (Ty.enc markT) m) (List.length m)))), ((nat_lit 23), (V.d (D.int IntKind.i64 (↑(List.length m) : Int)))), ((nat_lit 24), (V.d (D.int IntKind.i64 (IntKind.wrap IntKind.i64 ((↑i : Int) + (1 : Int))))))], h := [(Ob.cells [(V.d (D.int IntKind.i64 (Prod.fst p))), (V.d (D.int IntKind.i64 (Prod.fst (Prod.snd p))))])], og := [] }) 12 [(1, bt), (2, .v (V.d (D.ref (List.flatMap (Ty.enc markT) m) ((Int.toNat (↑i : Int)) * (4 : Nat))))), (3, .v (V.d (D.agg (Ty.enc markT (Ty.nth markT m (Int.toNat (↑i : Int))))))), (4, bf), (5, bf), (7, bf), (9, bf), (11, bf)] (cP h1 (cP h1 (cP h1 (cP h1 (cP h1 (cP (@loadRMark (m) ([(Ob.cells [(V.d (D.int IntKind.i64 (Prod.fst p))), (V.d (D.int IntKind.i64 (Prod.fst (Prod.snd p))))])]) (Int.toNat (↑i : Int)) (by (((try simp only [Bool.not_eq_true', Bool.not_eq_false', Bool.and_eq_true, Bool.and_eq_false_iff, decide_eq_true_eq, decide_eq_false_iff_not, beq_iff_eq, beq_eq_false_iff_ne, bne_iff_ne, bne_eq_false_iff_eq, ne_eq, not_and, Int.toNat_natCast] at *); (try simp only [Row.cells, Row.wrapped, Row.end_, Cell.kind, Cell.at] at *); (try simp (disch := omega) only [wrapId, toNatAdd, toNatSucc, isAt, reduceCtorEq, or_false, and_true, Bool.and_true, Bool.and_eq_true, Bool.and_eq_false_iff, beq_iff_eq, beq_eq_false_iff_ne, ne_eq, Int.toNat_natCast] at *)) <;> first | omega | assumption))) (cP (@iaddrRMark (m) ((↑i : Int)) (by (((try simp only [Bool.not_eq_true', Bool.not_eq_false', Bool.and_eq_true, Bool.and_eq_false_iff, decide_eq_true_eq, decide_eq_false_iff_not, beq_iff_eq, beq_eq_false_iff_ne, bne_iff_ne, bne_eq_false_iff_eq, ne_eq, not_and, Int.toNat_natCast] at *); (try simp only [Row.cells, Row.wrapped, Row.end_, Cell.kind, Cell.at] at *); (try simp (disch := omega) only [wrapId, toNatAdd, toNatSucc, isAt, reduceCtorEq, or_false, and_true, Bool.and_true, Bool.and_eq_true, Bool.and_eq_false_iff, beq_iff_eq, beq_eq_false_iff_ne, ne_eq, Int.toNat_natCast] at *)) <;> first | omega | assumption)) (by (((try simp only [Bool.not_eq_true', Bool.not_eq_false', Bool.and_eq_true, Bool.and_eq_false_iff, decide_eq_true_eq, decide_eq_false_iff_not, beq_iff_eq, beq_eq_false_iff_ne, bne_iff_ne, bne_eq_false_iff_eq, ne_eq, not_and, Int.toNat_natCast] at *); (try simp only [Row.cells, Row.wrapped, Row.end_, Cell.kind, Cell.at] at *); (try simp (disch := omega) only [wrapId, toNatAdd, toNatSucc, isAt, reduceCtorEq, or_false, and_true, Bool.and_true, Bool.and_eq_true, Bool.and_eq_false_iff, beq_iff_eq, beq_eq_false_iff_ne, ne_eq, Int.toNat_natCast] at *)) <;> first | omega | assumption))) (cP h0 nilE)))))))) (by kernel_rfl)).to (by ((try simp (disch := omega) only [wrapId, toNatAdd, toNatSucc, goesOn, Row.wrapped] at *); (try simp only [Int.toNat_natCast, beq_iff_eq, beq_eq_false_iff_ne, bne_iff_ne, bne_eq_false_iff_eq, ne_eq, Int.natCast_eq_zero, Int.natCast_inj, Row.cells] at *); first | (simp (disch := omega) [Ty.enc, stopAt, endMark, lineMarks, lineM, lineA, lineW, Row.end_, inA, inW, inM, mk, Cell.kind, Cell.at, Row.cells, wrapId, mP, isAt, toNatPred, toNatAdd, toNatSucc, goesOn, ltF, ltT, Row.wrapped, Ty.slD, *]; done) | (subst_vars; simp (disch := omega) [Ty.enc, stopAt, endMark, lineMarks, lineM, lineA, lineW, Row.end_, inA, inW, inM, mk, Cell.kind, Cell.at, Row.cells, wrapId, mP, isAt, toNatPred, toNatAdd, toNatSucc, goesOn, ltF, ltT, Row.wrapped, Ty.slD, *]; done)))
set_option maxHeartbeats 4000000 in
theorem inExit : inExit_T := by
  intro rows p m n e b
  have h0 : (decide ((↑(List.length m) : Int) < (↑(List.length m) : Int))) = false := by (((try simp only [Bool.not_eq_true', Bool.not_eq_false', Bool.and_eq_true, Bool.and_eq_false_iff, decide_eq_true_eq, decide_eq_false_iff_not, beq_iff_eq, beq_eq_false_iff_ne, bne_iff_ne, bne_eq_false_iff_eq, ne_eq, not_and, Int.toNat_natCast] at *); (try simp only [Row.cells, Row.wrapped, Row.end_, Cell.kind, Cell.at] at *); (try simp (disch := omega) only [wrapId, toNatAdd, toNatSucc, isAt, reduceCtorEq, or_false, and_true, Bool.and_true, Bool.and_eq_true, Bool.and_eq_false_iff, beq_iff_eq, beq_eq_false_iff_ne, ne_eq, Int.toNat_natCast] at *)) <;> first | omega | assumption)
  exact pR 12 [(1, bf)] (cP h0 nilE) (by kernel_rfl)
end Go.Proofs.Ytaobccodpdmieaa.Points
/- Points: the plain law: all marks are the reference's marks. -/
set_option linter.unusedVariables false
set_option linter.unusedSimpArgs false
namespace Go.Proofs.Ytaobccodpdmieaa.Points
open Go Pv G
def refStep (rows : List Row) (M : List Mark) (i : Nat) : List Mark := if i + 1 = rows.length ∨ Row.wrapped (rowT.nth rows (i + 1)) = false then rowMarks rows M i ++ [endMark rows i] else rowMarks rows M i
def refFold (rows : List Row) : Nat → List Mark
  | 0 => []
  | i + 1 => refStep rows (refFold rows i) i
def refMarks (rows : List Row) : List Mark := refFold rows rows.length

theorem nth_pre {e : Ty} {X A : List e.ty} {c : e.ty} (h : X ++ [c] <+: A) : e.nth A X.length = c := by
  obtain ⟨t, rfl⟩ := h
  simp [Ty.nth, List.getD_eq_getElem?_getD]
theorem inAto_pre1 (A cells : List Cell) (c : Nat) : inAto A cells c <+: inAto A cells (c + 1) := by
  simp only [inAto, inA]
  split
  · exact List.prefix_rfl
  · exact List.prefix_append _ _
theorem inAto_pre (A cells : List Cell) (c d : Nat) (h : c ≤ d) : inAto A cells c <+: inAto A cells d := by
  obtain ⟨d, rfl⟩ := Nat.exists_eq_add_of_le h
  clear h
  induction d with
  | zero => exact List.prefix_rfl
  | succ d ih => exact ih.trans (inAto_pre1 A cells (c + d))
theorem inWto_pre1 (row : Int) (A : List Point) (cells : List Cell) (c : Nat) : inWto row A cells c <+: inWto row A cells (c + 1) := by
  simp only [inWto, inW]
  split
  · exact List.prefix_rfl
  · exact List.prefix_append _ _
theorem inWto_pre (row : Int) (A : List Point) (cells : List Cell) (c d : Nat) (h : c ≤ d) : inWto row A cells c <+: inWto row A cells d := by
  obtain ⟨d, rfl⟩ := Nat.exists_eq_add_of_le h
  clear h
  induction d with
  | zero => exact List.prefix_rfl
  | succ d ih => exact ih.trans (inWto_pre1 row A cells (c + d))
theorem allTo_pre (P : List Row) (m n : Nat) (h : m ≤ n) : allTo P m <+: allTo P n := by
  obtain ⟨d, rfl⟩ := Nat.exists_eq_add_of_le h
  clear h
  induction d with
  | zero => exact List.prefix_rfl
  | succ d ih => exact ih.trans (inAto_pre (allTo P (m + d)) (Row.cells (rowT.nth P (m + d))) 0 _ (Nat.zero_le _))
theorem whTo_pre (P : List Row) (first : Int) (m n : Nat) (h : m ≤ n) : whTo P first m <+: whTo P first n := by
  obtain ⟨d, rfl⟩ := Nat.exists_eq_add_of_le h
  clear h
  induction d with
  | zero => exact List.prefix_rfl
  | succ d ih => exact ih.trans (inWto_pre (first + (m + d : Nat)) (whTo P first (m + d)) (Row.cells (rowT.nth P (m + d))) 0 _ (Nat.zero_le _))
theorem inWto_cnt (row : Int) (W : List Point) (cells : List Cell) : ∀ c, (inWto row W cells c).length = W.length + cntTo cells c
  | 0 => rfl
  | c + 1 => by
    have := inWto_cnt row W cells c
    simp only [inWto, inW, cntTo]
    split
    · exact this
    · rw [List.length_append, this]; rfl
theorem whTo_allTo (P : List Row) (first : Int) : ∀ t, (whTo P first t).length = (allTo P t).length
  | 0 => rfl
  | t + 1 => by
    simp only [whTo, allTo]
    unfold rowW rowA
    rw [inWto_cnt, inAto_cnt, whTo_allTo P first t]
theorem stops_nth (A : List Cell) (k : Nat) (h : k < A.length) : boolT.nth (stopsTo A A.length) k = stopAt A k := by
  simp [Ty.nth, stopsTo, List.getD_eq_getElem?_getD, h]

theorem row_law (P : List Row) (i0 t : Nat) (ht : t < P.length) (M : List Mark) : ∀ col, col ≤ (Row.cells (rowT.nth P t)).length →
    M ++ mTo (allTo P P.length) (whTo P i0 P.length) (stopsTo (allTo P P.length) (allTo P P.length).length) ((allTo P t).length + cntTo (Row.cells (rowT.nth P t)) col) =
      rmM (i0 + t) (allTo P P.length) (rowT.nth P t) (allTo P t).length (M ++ mTo (allTo P P.length) (whTo P i0 P.length) (stopsTo (allTo P P.length) (allTo P P.length).length) (allTo P t).length) col
  | 0, _ => by simp [cntTo, rmM]
  | col + 1, hc => by
    have ih := row_law P i0 t ht M col (by omega)
    simp only [cntTo, rmM]
    by_cases hk : (Cell.kind (cellT.nth (Row.cells (rowT.nth P t)) col) == 5) = true
    · rw [if_pos hk, if_pos hk]; exact ih
    · rw [if_neg hk, if_neg hk]
      have e1 : inAto (allTo P t) (Row.cells (rowT.nth P t)) (col + 1) = inAto (allTo P t) (Row.cells (rowT.nth P t)) col ++ [cellT.nth (Row.cells (rowT.nth P t)) col] := by
        simp only [inAto, inA]; rw [if_neg hk]
      have e2 : inWto ((i0 : Int) + t) (whTo P i0 t) (Row.cells (rowT.nth P t)) (col + 1) = inWto ((i0 : Int) + t) (whTo P i0 t) (Row.cells (rowT.nth P t)) col ++ [((i0 : Int) + t, (col : Int), ())] := by
        simp only [inWto, inW]; rw [if_neg hk]
      have p1 : inAto (allTo P t) (Row.cells (rowT.nth P t)) col ++ [cellT.nth (Row.cells (rowT.nth P t)) col] <+: allTo P P.length := by
        rw [← e1]
        exact (inAto_pre (allTo P t) _ (col + 1) _ hc).trans (allTo_pre P (t + 1) P.length ht)
      have p2 : inWto ((i0 : Int) + t) (whTo P i0 t) (Row.cells (rowT.nth P t)) col ++ [((i0 : Int) + t, (col : Int), ())] <+: whTo P i0 P.length := by
        rw [← e2]
        exact (inWto_pre _ (whTo P i0 t) _ (col + 1) _ hc).trans (whTo_pre P i0 (t + 1) P.length ht)
      have n1 := nth_pre (e := cellT) p1
      have n2 := nth_pre (e := pointT) p2
      have l1 := p1.length_le
      rw [List.length_append] at l1
      rw [inAto_cnt] at n1 l1
      rw [inWto_cnt, whTo_allTo] at n2
      have l1' : (allTo P t).length + cntTo (Row.cells (rowT.nth P t)) col < (allTo P P.length).length := by have := l1; simp at this; omega
      have s1 := stops_nth (allTo P P.length) _ l1'
      have hm : mk (allTo P P.length) (whTo P i0 P.length) ((allTo P t).length + cntTo (Row.cells (rowT.nth P t)) col) = cm (rowT.nth P t) (i0 + t) col := by
        unfold mk cm
        rw [n1, n2]
        simp [Cell.kind, Cell.at]
      rw [← Nat.add_assoc]
      simp only [mTo, inM]
      rw [s1, hm, ← ih]
      split
      · rw [List.append_assoc]
      · rfl

theorem part_nth (rows : List Row) (i t : Nat) (ht : t < runN rows i) : rowT.nth (part rows i) t = rowT.nth rows (i + t) := by
  simp only [Ty.nth, part, List.getD_eq_getElem?_getD, List.getElem?_drop, List.getElem?_take]
  rw [if_pos (by omega)]
theorem allTo_part (rows : List Row) (i : Nat) : ∀ t, t ≤ runN rows i → allTo (part rows i) t = allF rows i t
  | 0, _ => rfl
  | t + 1, h => by simp only [allTo, allF]; rw [allTo_part rows i t (by omega), part_nth rows i t (by omega)]

/-- Does a line begin there? -/
def LS (rows : List Row) (i : Nat) : Prop := i = 0 ∨ Row.wrapped (rowT.nth rows i) = false
theorem runN_get (rows : List Row) (i t : Nat) (h1 : 1 ≤ t) (h2 : t < runN rows i) : i + t < rows.length ∧ Row.wrapped (rowT.nth rows (i + t)) = true := by
  have := runFrom_get rows i rows.length 1 t h1 h2
  simpa [goesOn] using this
theorem runFrom_stop (rows : List Row) (i : Nat) : ∀ f n, rows.length ≤ i + n + f → goesOn rows i (runFrom rows i f n) = false
  | 0, n, h => by show goesOn rows i n = false; unfold goesOn; rw [decide_eq_false (by omega), Bool.false_and]
  | f + 1, n, h => by
    simp only [runFrom]
    split
    · exact runFrom_stop rows i f (n + 1) (by omega)
    · rename_i hg; simpa using hg
theorem runN_stop (rows : List Row) (i : Nat) : i + runN rows i < rows.length → Row.wrapped (rowT.nth rows (i + runN rows i)) = false := by
  intro h
  have := runFrom_stop rows i rows.length 1 (by omega)
  unfold runN at h ⊢
  simpa [goesOn, h] using this
theorem backTo_start (rows : List Row) (i : Nat) (hL : LS rows i) : ∀ t, t < runN rows i → backTo rows (i + t) = i
  | 0, _ => by
    rcases hL with rfl | hw
    · rfl
    · cases i with
      | zero => rfl
      | succ i => show backTo rows (i + 1) = i + 1; simp only [backTo]; rw [if_neg (by simp [hw])]
  | t + 1, h => by
    have := runN_get rows i (t + 1) (by omega) h
    show (if Row.wrapped (rowT.nth rows (i + t + 1)) = true then backTo rows (i + t) else i + t + 1) = i
    rw [if_pos (by simpa [Nat.add_assoc] using this.2), backTo_start rows i hL t (by omega)]

theorem lines_law (rows : List Row) (i : Nat) (hi : i < rows.length) (hL : LS rows i) : ∀ t, t < runN rows i →
    refFold rows (i + t) = refFold rows i ++ mTo (allTo (part rows i) (part rows i).length) (whTo (part rows i) i (part rows i).length) (stopsTo (allTo (part rows i) (part rows i).length) (allTo (part rows i) (part rows i).length).length) (allTo (part rows i) t).length ∧
    rowMarks rows (refFold rows (i + t)) (i + t) = refFold rows i ++ mTo (allTo (part rows i) (part rows i).length) (whTo (part rows i) i (part rows i).length) (stopsTo (allTo (part rows i) (part rows i).length) (allTo (part rows i) (part rows i).length).length) (allTo (part rows i) (t + 1)).length := by
  have hpl := part_len rows i hi
  have key : ∀ t, t < runN rows i → refFold rows (i + t) = refFold rows i ++ mTo (allTo (part rows i) (part rows i).length) (whTo (part rows i) i (part rows i).length) (stopsTo (allTo (part rows i) (part rows i).length) (allTo (part rows i) (part rows i).length).length) (allTo (part rows i) t).length →
      rowMarks rows (refFold rows (i + t)) (i + t) = refFold rows i ++ mTo (allTo (part rows i) (part rows i).length) (whTo (part rows i) i (part rows i).length) (stopsTo (allTo (part rows i) (part rows i).length) (allTo (part rows i) (part rows i).length).length) (allTo (part rows i) (t + 1)).length := by
    intro t ht hM
    have hb := backTo_start rows i hL t ht
    have hlo : lineOf rows (i + t) = allTo (part rows i) (part rows i).length := by
      unfold lineOf; rw [hb, hpl, allTo_part rows i _ (Nat.le_refl _)]
    have hah : aheadOf rows (i + t) = (allTo (part rows i) t).length := by
      unfold aheadOf ahF; rw [hb, if_pos (by omega), allTo_part rows i t (by omega)]; congr 2; omega
    have h1 := row_law (part rows i) i t (by omega) (refFold rows i) (Row.cells (rowT.nth (part rows i) t)).length (Nat.le_refl _)
    have h2 : (allTo (part rows i) (t + 1)).length = (allTo (part rows i) t).length + cntTo (Row.cells (rowT.nth (part rows i) t)) (Row.cells (rowT.nth (part rows i) t)).length := by
      simp only [allTo]; unfold rowA; rw [inAto_cnt]
    unfold rowMarks
    rw [h2, h1, hlo, hah, hM, part_nth rows i t ht]
  intro t
  induction t with
  | zero =>
    intro h
    have h0 : refFold rows (i + 0) = refFold rows i ++ mTo (allTo (part rows i) (part rows i).length) (whTo (part rows i) i (part rows i).length) (stopsTo (allTo (part rows i) (part rows i).length) (allTo (part rows i) (part rows i).length).length) (allTo (part rows i) 0).length := by simp [allTo, mTo]
    exact ⟨h0, key 0 h h0⟩
  | succ t ih =>
    intro h
    have h1 := (ih (by omega)).2
    have hg := runN_get rows i (t + 1) (by omega) h
    have h2 : refFold rows (i + (t + 1)) = refFold rows i ++ mTo (allTo (part rows i) (part rows i).length) (whTo (part rows i) i (part rows i).length) (stopsTo (allTo (part rows i) (part rows i).length) (allTo (part rows i) (part rows i).length).length) (allTo (part rows i) (t + 1)).length := by
      rw [← h1]
      show refStep rows (refFold rows (i + t)) (i + t) = _
      unfold refStep
      rw [if_neg]
      rintro (h3 | h3)
      · omega
      · rw [show i + t + 1 = i + (t + 1) by omega, hg.2] at h3; cases h3
    exact ⟨h2, key (t + 1) h h2⟩

theorem line_law (rows : List Row) (i : Nat) (hi : i < rows.length) (hL : LS rows i) : refFold rows (i + runN rows i) = refFold rows i ++ lineMarks (part rows i) i := by
  have hpl := part_len rows i hi
  have h5 := runFrom_le rows i rows.length 1 (by omega)
  have h8 : runN rows i = runFrom rows i rows.length 1 := rfl
  obtain ⟨n, hn⟩ : ∃ n, runN rows i = n + 1 := ⟨runN rows i - 1, by omega⟩
  have h1 := (lines_law rows i hi hL n (by omega)).2
  have hs := runN_stop rows i
  rw [hn] at hs ⊢
  show refStep rows (refFold rows (i + n)) (i + n) = _
  unfold refStep
  rw [if_pos, h1]
  · unfold lineMarks lineM lineA lineW
    rw [stopsTo_length, hpl, hn]
    rw [List.append_assoc]
    congr 2
    show [endMark rows (i + n)] = _
    unfold endMark
    have e : rowT.nth (part rows i) (n + 1 - 1) = rowT.nth rows (i + n) := part_nth rows i n (by omega)
    rw [e, show ((i : Int) + ((n + 1 : Nat) : Int) - 1) = ((i + n : Nat) : Int) by omega]
  · by_cases h : i + n + 1 = rows.length
    · exact .inl h
    · exact .inr (hs (by omega))

theorem marks_law (rows : List Row) : ∀ f i, rows.length ≤ i + f → i ≤ rows.length → LS rows i → marksFrom rows f i (refFold rows i) = refFold rows rows.length := by
  intro f
  induction f with
  | zero =>
    intro i h1 h2 _
    obtain rfl : i = rows.length := by omega
    rfl
  | succ f ih =>
    intro i h1 h2 hL
    simp only [marksFrom]
    by_cases hi : i < rows.length
    · rw [if_pos hi, ← line_law rows i hi hL]
      have h5 := runFrom_le rows i rows.length 1 (by omega)
      have h8 : runN rows i = runFrom rows i rows.length 1 := rfl
      refine ih _ (by omega) (by omega) ?_
      by_cases hl : i + runN rows i < rows.length
      · exact .inr (runN_stop rows i hl)
      · refine .inr ?_
        have : rowT.nth rows (i + runN rows i) = rowT.dflt := by
          simp only [Ty.nth, List.getD_eq_getElem?_getD]
          rw [List.getElem?_eq_none (by omega)]; rfl
        rw [this]; rfl
    · rw [if_neg hi]
      obtain rfl : i = rows.length := by omega
      rfl
theorem marks_same (rows : List Row) : allMarks rows = refMarks rows := marks_law rows rows.length 0 (by omega) (Nat.zero_le _) (.inl rfl)
end Go.Proofs.Ytaobccodpdmieaa.Points
/- Points: loops of Marks, of 'same', of the reference's Place, of PointsValid; statements of their answers. -/
set_option linter.unusedVariables false
namespace Go.Proofs.Ytaobccodpdmieaa.Points
open Go Pv G
theorem rowMarks_len (rows : List Row) (M : List Mark) (i : Nat) (hs : smallR rows) : (rowMarks rows M i).length ≤ M.length + 1000 := by
  have h1 := rmM_len i (lineOf rows i) (rowT.nth rows i) (aheadOf rows i) M (Row.cells (rowT.nth rows i)).length
  have h2 := hs.2 i
  unfold rowMarks
  omega
theorem refFold_len (rows : List Row) (hs : smallR rows) : ∀ i, (refFold rows i).length ≤ i * 1001
  | 0 => Nat.le_refl _
  | i + 1 => by
    have h1 := refFold_len rows hs i
    have h2 := rowMarks_len rows (refFold rows i) i hs
    show (refStep rows (refFold rows i) i).length ≤ _
    unfold refStep
    split
    · rw [List.length_append]; simp; omega
    · omega
theorem rmLoop0C (rows : List Row) (hs : smallR rows) : ∀ f i m, f + i = rows.length → f < m →
    LpC X0 0 (ntOf X0 FRM) (lpKeep X0 FRM 0) (lpBody X0 FRM 0) 0 m (stW rows (refFold rows i) i) (.exit 0, stWx rows (allMarks rows)) := by
  have hr := hs.1
  intro f
  induction f with
  | zero =>
    intro i m h1 h2
    obtain rfl : i = rows.length := by omega
    rw [marks_same]
    exact LpC.last (rmExit0 rows _) (by simp)
  | succ f ih =>
    intro i m h1 h2
    obtain ⟨m, rfl⟩ : ∃ x, m = x + 1 := ⟨m - 1, by omega⟩
    have h3 := ih (i + 1) m (by omega) (by omega)
    have h4 := refFold_len rows hs i
    have h5 := rowMarks_len rows (refFold rows i) i hs
    have hn : refFold rows (i + 1) = refStep rows (refFold rows i) i := rfl
    rw [hn] at h3
    unfold refStep at h3
    by_cases hi : i + 1 = rows.length
    · rw [if_pos (.inl hi)] at h3
      exact LpC.next (rmRoundE rows _ i hs hr hi (by omega) (by omega)) h3
    · cases hw : Row.wrapped (rowT.nth rows (i + 1)) with
      | false =>
        rw [if_pos (.inr hw)] at h3
        exact LpC.next (rmRoundA rows _ i hs hr (by omega) hw (by omega) (by omega)) h3
      | true =>
        rw [if_neg (by simp [hi, hw])] at h3
        exact LpC.next (rmRoundB rows _ i hs hr (by omega) hw (by omega) (by omega)) h3
def rmLoop0_T : Prop := ∀ (rows : List Row) (hs : smallR rows), Lp X0 0 (ntOf X0 FRM) (lpKeep X0 FRM 0) (lpBody X0 FRM 0) 0 FUEL (stW rows [] 0) (.exit 0, stWx rows (allMarks rows))
theorem rmLoop0 : rmLoop0_T := fun rows hs => LpC.start (m := 1152921504606846975) (rmLoop0C rows hs rows.length 0 _ (by omega) (by have := hs.1; omega)) (by kernel_rfl)
def rmarks_T : Prop := ∀ (rows : List Row) (hs : smallR rows), Ans X0 FRM [.d (rowT.slD rows)] (.d (markT.slD (allMarks rows)))
theorem allMarks_len {rows : List Row} (hs : smallR rows) : (allMarks rows).length < 2000000 := by
  have := refFold_len rows hs rows.length
  have := hs.1
  rw [marks_same]
  unfold refMarks
  omega

theorem ptsTo_len (m : List Mark) (n : Nat) : (ptsTo m n).length = n := by simp [ptsTo]
theorem ptsTo_nth (m : List Mark) (n i : Nat) (h : i < n) : pointT.nth (ptsTo m n) i = mP (markT.nth m i) := by
  simp [Ty.nth, ptsTo, List.getD_eq_getElem?_getD, h]
theorem sameLoopC (l : List Point) (m : List Mark) (hl : l.length < 100000000) (hm : l.length = m.length) (h : ∀ i, i < l.length → (pointT.nth l i).1 = (markT.nth m i).1 ∧ (pointT.nth l i).2.1 = (markT.nth m i).2.1) : ∀ j i n, j + i = l.length → j < n →
    LpC X0 0 (ntOf X0 FSm) (lpKeep X0 FSm 0) (lpBody X0 FSm 0) 0 n (stSm l m i) (.exit 0, stSmx l m) := by
  intro j
  induction j with
  | zero =>
    intro i n h1 h2
    obtain rfl : i = l.length := by omega
    exact LpC.last (sameExit l m) (by simp)
  | succ j ih =>
    intro i n h1 h2
    obtain ⟨n, rfl⟩ : ∃ x, n = x + 1 := ⟨n - 1, by omega⟩
    exact LpC.next (sameRound l m i hl (by omega) hm (h i (by omega)).1 (h i (by omega)).2) (ih (i + 1) n (by omega) (by omega))
def sameLoop_T : Prop := ∀ (m : List Mark) (hl : m.length < 100000000), Lp X0 0 (ntOf X0 FSm) (lpKeep X0 FSm 0) (lpBody X0 FSm 0) 0 FUEL (stSm (ptsTo m m.length) m 0) (.exit 0, stSmx (ptsTo m m.length) m)
theorem sameLoop : sameLoop_T := fun m hl => LpC.start (m := 1152921504606846975) (sameLoopC (ptsTo m m.length) m (by rw [ptsTo_len]; exact hl) (ptsTo_len _ _) (fun i hi => by rw [ptsTo_len] at hi; rw [ptsTo_nth m _ i hi]; exact ⟨rfl, rfl⟩) (ptsTo m m.length).length 0 _ (by omega) (by rw [ptsTo_len]; omega)) (by kernel_rfl)
def same_T : Prop := ∀ (m : List Mark) (hl : m.length < 100000000) (h2 : (ptsTo m m.length).length = m.length), Ans X0 FSm [.d (pointT.slD (ptsTo m m.length)), .d (markT.slD m)] (.d (.bool true))

theorem plLoopC (m : List Mark) (p : Point) (hl : m.length < 100000000) : ∀ f k n, k + f = m.length → f < n → 0 ≤ findFrom m p f k →
    LpC X0 0 (ntOf X0 FPl) (lpKeep X0 FPl 0) (lpBody X0 FPl 0) 1 n (stPl m p k) (.ret, stPlr p (markT.nth m (findFrom m p f k).toNat)) := by
  intro f
  induction f with
  | zero => intro k n _ _ h; simp [findFrom] at h
  | succ f ih =>
    intro k n h1 h2 h
    simp only [findFrom] at h ⊢
    cases hm : isAt (markT.nth m k) p with
    | true =>
      rw [if_pos rfl, Int.toNat_natCast]
      exact LpC.last (plHit m p k hl (by omega) hm) (by simp)
    | false =>
      rw [hm, if_neg (by simp)] at h
      rw [if_neg (by simp)]
      obtain ⟨n, rfl⟩ : ∃ x, n = x + 1 := ⟨n - 1, by omega⟩
      exact LpC.next (plRound m p k hl (by omega) hm) (ih (k + 1) n (by omega) (by omega) h)
def plLoop_T : Prop := ∀ (m : List Mark) (p : Point) (hl : m.length < 100000000) (h : 0 ≤ findTo m p), Lp X0 0 (ntOf X0 FPl) (lpKeep X0 FPl 0) (lpBody X0 FPl 0) 1 FUEL (stPl m p 0) (.ret, stPlr p (markT.nth m (findTo m p).toNat))
theorem plLoop : plLoop_T := fun m p hl h => LpC.start (m := 1152921504606846975) (plLoopC m p hl m.length 0 _ (by omega) (by omega) h) (by kernel_rfl)
def rplace_T : Prop := ∀ (rows : List Row) (p : Point) (hs : smallR rows) (hl : (allMarks rows).length < 100000000) (h : 0 ≤ findTo (allMarks rows) p), Ans X0 FPl [.d (rowT.slD rows), .d (.agg (pointT.enc p))] (.d (.int .i64 (markT.nth (allMarks rows) (findTo (allMarks rows) p).toNat).2.2.2.1))

/-- Is a point one of the first marks? -/
def inTo (m : List Mark) (p : Point) : Nat → Bool
  | 0 => false
  | i + 1 => inTo m p i || isAt (markT.nth m i) p
theorem inLoopC (rows : List Row) (p : Point) (m : List Mark) (n e : Int) (hm : m.length < 100000000) : ∀ j i k, j + i = m.length → j < k →
    LpC X0 0 (ntOf X0 FPV) (lpKeep X0 FPV 0) (lpBody X0 FPV 0) 1 k (stIn rows p m n e (inTo m p i) i) (.exit 0, stInx rows p m n e (inTo m p m.length)) := by
  intro j
  induction j with
  | zero =>
    intro i n h1 h2
    obtain rfl : i = m.length := by omega
    exact LpC.last (inExit rows p m _ e _) (by simp)
  | succ j ih =>
    intro i k h1 h2
    obtain ⟨k, rfl⟩ : ∃ x, k = x + 1 := ⟨k - 1, by omega⟩
    exact LpC.next (inRound rows p m n e _ i hm (by omega)) (ih (i + 1) k (by omega) (by omega))
def inLoop_T : Prop := ∀ (rows : List Row) (p : Point) (m : List Mark) (n e : Int) (hm : m.length < 100000000), Lp X0 0 (ntOf X0 FPV) (lpKeep X0 FPV 0) (lpBody X0 FPV 0) 1 FUEL (stIn rows p m n e false 0) (.exit 0, stInx rows p m n e (inTo m p m.length))
theorem inLoop : inLoop_T := fun rows p m n e hm => LpC.start (m := 1152921504606846975) (inLoopC rows p m n e hm m.length 0 _ (by omega) (by omega)) (by kernel_rfl)
theorem inTo_find (m : List Mark) (p : Point) : ∀ f k, k + f = m.length → inTo m p k = false → inTo m p m.length = decide (findFrom m p f k ≥ 0)
  | 0, k, h, h0 => by
    obtain rfl : k = m.length := by omega
    rw [h0]; simp [findFrom]
  | f + 1, k, h, h0 => by
    by_cases hm : isAt (markT.nth m k) p = true
    · have h1 : inTo m p (k + 1) = true := by simp [inTo, hm]
      have h2 : ∀ d, inTo m p (k + 1 + d) = true := by
        intro d
        induction d with
        | zero => exact h1
        | succ d ih => show (inTo m p (k + 1 + d) || _) = true; rw [ih]; rfl
      have h3 := h2 f
      rw [show k + 1 + f = m.length by omega] at h3
      have h4 : findFrom m p (f + 1) k = (k : Int) := by simp only [findFrom]; rw [if_pos hm]
      rw [h3, h4]; simp
    · have h4 : findFrom m p (f + 1) k = findFrom m p f (k + 1) := by simp only [findFrom]; rw [if_neg hm]
      rw [h4]
      exact inTo_find m p f (k + 1) (by omega) (by simp [inTo, h0, hm])
theorem findFrom_lt (l : List Mark) (p : Point) : ∀ f k, findFrom l p f k < k + f ∨ findFrom l p f k = -1
  | 0, k => .inr rfl
  | f + 1, k => by
    simp only [findFrom]
    split
    · left; omega
    · have := findFrom_lt l p f (k + 1); omega

def validLong_T : Prop := ∀ (rows : List Row) (p : Point) (hr : okR rows) (hl : 300 < lenTo rows rows.length), Ans X0 FPV [.d (rowT.slD rows), .d (.agg (pointT.enc p))] (.d (.bool true))
def validNo_T : Prop := ∀ (rows : List Row) (p : Point) (hr : okR rows) (hs : smallR rows) (hl : lenTo rows rows.length ≤ 300) (hm : (allMarks rows).length < 100000000) (h2 : (ptsTo (allMarks rows) (allMarks rows).length).length = (allMarks rows).length) (h : findTo (allMarks rows) p < 0) (hd : decide (findTo (allMarks rows) p ≥ 0) = false) (hi : inTo (allMarks rows) p (allMarks rows).length = false), Ans X0 FPV [.d (rowT.slD rows), .d (.agg (pointT.enc p))] (.d (.bool true))
def validYes_T : Prop := ∀ (rows : List Row) (p : Point) (hr : okR rows) (hs : smallR rows) (hl : lenTo rows rows.length ≤ 300) (hm : (allMarks rows).length < 100000000) (h2 : (ptsTo (allMarks rows) (allMarks rows).length).length = (allMarks rows).length) (h : 0 ≤ findTo (allMarks rows) p) (hf : findTo (allMarks rows) p < (allMarks rows).length) (hd : decide (findTo (allMarks rows) p ≥ 0) = true) (hi : inTo (allMarks rows) p (allMarks rows).length = true), Ans X0 FPV [.d (rowT.slD rows), .d (.agg (pointT.enc p))] (.d (.bool true))
end Go.Proofs.Ytaobccodpdmieaa.Points
/- Points: paths, printed by a program of mine. -/
set_option maxRecDepth 100000
set_option linter.unusedSimpArgs false
set_option linter.unusedVariables false
namespace Go.Proofs.Ytaobccodpdmieaa.Points
open Go Pv G
set_option maxHeartbeats 4000000 in
theorem rmarks : rmarks_T := by
  intro rows hs
  exact pV 12 [(1, .l (Ex.exit (0 : Nat)) (stWx rows (allMarks rows)))] (cE (@rmLoop0 (rows) hs) nilE) (by kernel_rfl) rfl rfl
set_option maxHeartbeats 4000000 in
theorem same : same_T := by
  intro m hl h2
  exact (pV (v := V.d (D.bool ((↑(List.length (ptsTo m (List.length m))) : Int) == (↑(List.length m) : Int)))) 12 [(1, .l (Ex.exit (0 : Nat)) (stSmx (ptsTo m (List.length m)) m))] (cE (@sameLoop (m) hl) nilE) (by kernel_rfl) rfl rfl).to (by ((try simp (disch := omega) only [wrapId, toNatAdd, toNatSucc, goesOn, Row.wrapped] at *); (try simp only [Int.toNat_natCast, beq_iff_eq, beq_eq_false_iff_ne, bne_iff_ne, bne_eq_false_iff_eq, ne_eq, Int.natCast_eq_zero, Int.natCast_inj, Row.cells] at *); first | (simp (disch := omega) [Ty.enc, stopAt, endMark, lineMarks, lineM, lineA, lineW, Row.end_, inA, inW, inM, mk, Cell.kind, Cell.at, Row.cells, wrapId, mP, isAt, toNatPred, toNatAdd, toNatSucc, goesOn, ltF, ltT, Row.wrapped, Ty.slD, *]; done) | (subst_vars; simp (disch := omega) [Ty.enc, stopAt, endMark, lineMarks, lineM, lineA, lineW, Row.end_, inA, inW, inM, mk, Cell.kind, Cell.at, Row.cells, wrapId, mP, isAt, toNatPred, toNatAdd, toNatSucc, goesOn, ltF, ltT, Row.wrapped, Ty.slD, *]; done)))
set_option maxHeartbeats 4000000 in
theorem rplace : rplace_T := by
  intro rows p hs hl h
  exact pV 12 [(0, .v (V.d (Ty.slD markT (allMarks rows)))), (2, .l (Ex.ret) (stPlr p (Ty.nth markT (allMarks rows) (Int.toNat (findTo (allMarks rows) p)))))] (cE (@plLoop (allMarks rows) (p) hl h) (cC (@rmarks (rows) hs) nilE)) (by kernel_rfl) rfl rfl
end Go.Proofs.Ytaobccodpdmieaa.Points
/- Points: the statements of runs, first part. -/
set_option linter.unusedVariables false
namespace Go.Proofs.Ytaobccodpdmieaa.Points
open Go Pv G
abbrev nV (n : Int) : V := .d (.int .i64 n)
abbrev tt : V := .d (.bool true)
def one_T : Prop := Ans X0 11 [] tt
def lawNone_T : Prop := ∀ (a b c : Int), Ans X0 9 [.d (.agg [.int .i64 a, .int .i64 b]), nV c] tt
end Go.Proofs.Ytaobccodpdmieaa.Points
/- Points: paths, printed by a program of mine. -/
set_option maxRecDepth 100000
set_option linter.unusedSimpArgs false
set_option linter.unusedVariables false
namespace Go.Proofs.Ytaobccodpdmieaa.Points
open Go Pv G
set_option maxHeartbeats 4000000 in
theorem one : one_T := by
  exact pV 12 [] nilE (by kernel_rfl) rfl rfl
set_option maxHeartbeats 4000000 in
theorem lawNone : lawNone_T := by
  intro a b c
  exact pV 12 [] nilE (by kernel_rfl) rfl rfl
end Go.Proofs.Ytaobccodpdmieaa.Points
/- Points: the law PointsValid: statements of its paths. -/
set_option linter.unusedVariables false
namespace Go.Proofs.Ytaobccodpdmieaa.Points
open Go Pv G
def isYes_T : Prop := ∀ (rows : List Row) (p : Point) (hs : smallR rows) (hl : (allMarks rows).length < 100000000) (h : 0 ≤ findTo (allMarks rows) p), Ans X0 21 [.d (rowT.slD rows), .d (.agg (pointT.enc p))] (.d (.bool true))
def isNo_T : Prop := ∀ (rows : List Row) (p : Point) (hs : smallR rows) (hl : (allMarks rows).length < 100000000) (h : findTo (allMarks rows) p < 0), Ans X0 21 [.d (rowT.slD rows), .d (.agg (pointT.enc p))] (.d (.bool false))
theorem isYes : isYes_T := fun rows p hs hl h => by have := is rows p hs hl; rw [decide_eq_true h] at this; exact this
theorem isNo : isNo_T := fun rows p hs hl h => by have := is rows p hs hl; rw [decide_eq_false (by omega)] at this; exact this
def inYes_T : Prop := ∀ (rows : List Row) (p : Point) (n e : Int) (hl : (allMarks rows).length < 100000000) (h : 0 ≤ findTo (allMarks rows) p), Lp X0 0 (ntOf X0 FPV) (lpKeep X0 FPV 0) (lpBody X0 FPV 0) 1 FUEL (stIn rows p (allMarks rows) n e false 0) (.exit 0, stInx rows p (allMarks rows) n e true)
def inNo_T : Prop := ∀ (rows : List Row) (p : Point) (n e : Int) (hl : (allMarks rows).length < 100000000) (h : findTo (allMarks rows) p < 0), Lp X0 0 (ntOf X0 FPV) (lpKeep X0 FPV 0) (lpBody X0 FPV 0) 1 FUEL (stIn rows p (allMarks rows) n e false 0) (.exit 0, stInx rows p (allMarks rows) n e false)
theorem inYes : inYes_T := fun rows p n e hl h => by
  have := inLoop rows p (allMarks rows) n e hl
  rw [inTo_find (allMarks rows) p (allMarks rows).length 0 (by omega) rfl] at this
  rw [show decide (findFrom (allMarks rows) p (allMarks rows).length 0 ≥ 0) = true from decide_eq_true h] at this
  exact this
theorem inNo : inNo_T := fun rows p n e hl h => by
  have := inLoop rows p (allMarks rows) n e hl
  rw [inTo_find (allMarks rows) p (allMarks rows).length 0 (by omega) rfl] at this
  rw [show decide (findFrom (allMarks rows) p (allMarks rows).length 0 ≥ 0) = false from decide_eq_false (by unfold findTo at h; omega)] at this
  exact this
end Go.Proofs.Ytaobccodpdmieaa.Points
/- Points: paths, printed by a program of mine. -/
set_option maxRecDepth 100000
set_option linter.unusedSimpArgs false
set_option linter.unusedVariables false
namespace Go.Proofs.Ytaobccodpdmieaa.Points
open Go Pv G
set_option maxHeartbeats 4000000 in
theorem validLong : validLong_T := by
  intro rows p hr hl
  exact pV 12 [(0, .v (V.d (D.bool true))), (2, .v (tt))] (cC (@one ) (cC (@longYes (rows) hr hl) nilE)) (by kernel_rfl) rfl rfl
set_option maxHeartbeats 4000000 in
theorem validNo : validNo_T := by
  intro rows p hr hs hl hm h2 h hd hi
  exact pV 12 [(0, .v (V.d (D.bool false))), (2, .v (V.d (Ty.slD markT (allMarks rows)))), (4, .v (V.d (D.tup [(D.int IntKind.i64 (0 : Int)), (D.int IntKind.i64 (1 : Int))]))), (6, .l (Ex.exit (0 : Nat)) (stInx rows p (allMarks rows) (0 : Int) (1 : Int) false)), (7, .v (V.d (Ty.slD pointT (ptsTo (allMarks rows) (List.length (allMarks rows)))))), (8, .v (V.d (D.bool true))), (13, .v (V.d (D.bool false))), (26, .v (tt))] (cC (@one ) (cC (@isNo (rows) (p) hs hm h) (cC (@same (allMarks rows) hm h2) (cC (@valid (rows) hs hm) (cE (@inNo (rows) (p) ((0 : Int)) ((1 : Int)) hm h) (cC (@placeNo (rows) (p) hs hm h) (cC (@rmarks (rows) hs) (cC (@longNo (rows) hr hl) nilE)))))))) (by kernel_rfl) rfl rfl
set_option maxHeartbeats 4000000 in
theorem validYes : validYes_T := by
  intro rows p hr hs hl hm h2 h hf hd hi
  have h0 : ((Prod.fst (Prod.snd (Prod.snd (Prod.snd (Ty.nth markT (allMarks rows) (Int.toNat (findTo (allMarks rows) p))))))) == (Prod.fst (Prod.snd (Prod.snd (Prod.snd (Ty.nth markT (allMarks rows) (Int.toNat (findTo (allMarks rows) p)))))))) = true := by (((try simp only [eq_self, and_true, true_and, Bool.and_true, Bool.true_and, Bool.not_eq_true', Bool.not_eq_false', Bool.and_eq_true, Bool.and_eq_false_iff, decide_eq_true_eq, decide_eq_false_iff_not, beq_iff_eq, beq_eq_false_iff_ne, bne_iff_ne, bne_eq_false_iff_eq, ne_eq, not_and, Int.toNat_natCast] at *); (try simp only [Row.cells, Row.wrapped, Row.end_, Cell.kind, Cell.at] at *); (try simp (disch := omega) only [wrapId, toNatAdd, toNatSucc, isAt, reduceCtorEq, or_false, and_true, Bool.and_true, Bool.and_eq_true, Bool.and_eq_false_iff, beq_iff_eq, beq_eq_false_iff_ne, ne_eq, Int.toNat_natCast] at *)) <;> first | omega | assumption | (refine ⟨?_, ?_⟩ <;> assumption))
  exact pV 12 [(0, .v (V.d (D.bool false))), (2, .v (V.d (Ty.slD markT (allMarks rows)))), (4, .v (V.d (D.tup [(D.int IntKind.i64 (Prod.fst (Prod.snd (Prod.snd (Prod.snd (Ty.nth markT (allMarks rows) (Int.toNat (findTo (allMarks rows) p)))))))), (D.int IntKind.i64 (0 : Int))]))), (6, .l (Ex.exit (0 : Nat)) (stInx rows p (allMarks rows) (Prod.fst (Prod.snd (Prod.snd (Prod.snd (Ty.nth markT (allMarks rows) (Int.toNat (findTo (allMarks rows) p))))))) (0 : Int) true)), (7, .v (V.d (Ty.slD pointT (ptsTo (allMarks rows) (List.length (allMarks rows)))))), (8, .v (V.d (D.bool true))), (13, .v (V.d (D.bool true))), (26, .v (V.d (D.int IntKind.i64 (Prod.fst (Prod.snd (Prod.snd (Prod.snd (Ty.nth markT (allMarks rows) (Int.toNat (findTo (allMarks rows) p)))))))))), (30, bt), (31, .v (tt)), (32, bt)] (cP h0 (cC (@one ) (cP h0 (cC (@rplace (rows) (p) hs hm h) (cC (@isYes (rows) (p) hs hm h) (cC (@same (allMarks rows) hm h2) (cC (@valid (rows) hs hm) (cE (@inYes (rows) (p) (Prod.fst (Prod.snd (Prod.snd (Prod.snd (Ty.nth markT (allMarks rows) (Int.toNat (findTo (allMarks rows) p))))))) ((0 : Int)) hm h) (cC (@placeYes (rows) (p) hs hm h hf) (cC (@rmarks (rows) hs) (cC (@longNo (rows) hr hl) nilE))))))))))) (by kernel_rfl) rfl rfl
end Go.Proofs.Ytaobccodpdmieaa.Points
/- Points: the law PointsValid, on data. -/
set_option linter.unusedVariables false
namespace Go.Proofs.Ytaobccodpdmieaa.Points
open Go Pv G
theorem lenTo_ge (rows : List Row) : ∀ n, n ≤ lenTo rows n
  | 0 => Nat.le_refl _
  | n + 1 => by have := lenTo_ge rows n; show n + 1 ≤ lenTo rows n + _ + 1; omega
theorem nth_out {e : Ty} (l : List e.ty) (i : Nat) (h : l.length ≤ i) : e.nth l i = e.dflt := by
  simp only [Ty.nth, List.getD_eq_getElem?_getD]
  rw [List.getElem?_eq_none h]; rfl
theorem small_of (rows : List Row) (h : lenTo rows rows.length ≤ 300) : smallR rows := by
  refine ⟨by have := lenTo_ge rows rows.length; omega, fun i => ?_⟩
  by_cases hi : i < rows.length
  · have h1 := lenTo_mono rows (i + 1) rows.length hi
    have h2 : lenTo rows (i + 1) = lenTo rows i + (Row.cells (rowT.nth rows i)).length + 1 := rfl
    omega
  · rw [nth_out (e := rowT) rows i (by omega)]
    exact Nat.zero_le _
theorem okR_of (rows : List Row) (h : Ty.ok (.sl rowT) rows) : okR rows := by
  have hm : reachBytes < 1000000000000000 := by decide
  refine ⟨Nat.lt_of_le_of_lt h.1 hm, fun i => ?_⟩
  by_cases hi : i < rows.length
  · have h1 : rowT.nth rows i = rows[i] := by simp [Ty.nth, List.getD_eq_getElem?_getD, hi]
    rw [h1]
    have h2 := h.2 rows[i] (List.getElem_mem hi)
    exact Nat.lt_of_le_of_lt h2.1.1 hm
  · rw [nth_out (e := rowT) rows i (by omega)]
    decide
theorem validLaw (rows : List Row) (p : Point) (h : Ty.ok (.sl rowT) rows) : Ans X0 FPV [.d (rowT.slD rows), .d (.agg (pointT.enc p))] (.d (.bool true)) := by
  have hr := okR_of rows h
  by_cases hl : lenTo rows rows.length ≤ 300
  · have hs := small_of rows hl
    have hm := allMarks_len hs
    have hf : inTo (allMarks rows) p (allMarks rows).length = decide (findTo (allMarks rows) p ≥ 0) := inTo_find (allMarks rows) p (allMarks rows).length 0 (by omega) rfl
    by_cases h0 : 0 ≤ findTo (allMarks rows) p
    · have hlt : findTo (allMarks rows) p < (allMarks rows).length := by
        have := findFrom_lt (allMarks rows) p (allMarks rows).length 0
        unfold findTo at h0 ⊢
        omega
      exact validYes rows p hr hs hl (by omega) (ptsTo_len _ _) h0 hlt (decide_eq_true h0) (by rw [hf]; exact decide_eq_true h0)
    · exact validNo rows p hr hs hl (by omega) (ptsTo_len _ _) (by omega) (decide_eq_false h0) (by rw [hf]; exact decide_eq_false h0)
  · exact validLong rows p hr (by omega)
end Go.Proofs.Ytaobccodpdmieaa.Points
/- Points: the last mark for which a function does not say so of a point; the reference's Clip: statements. -/
set_option linter.unusedVariables false
set_option linter.unusedSimpArgs false
namespace Go.Proofs.Ytaobccodpdmieaa.Points
open Go Pv G
abbrev FPk : Nat := 35
abbrev fBh : Nat := 36
abbrev fAh : Nat := 38
def ptR (p : Point) : Int := p.1
def ptC (p : Point) : Int := p.2.1
def mR (m : Mark) : Int := m.1
def mC (m : Mark) : Int := m.2.1
def mK (m : Mark) : Int := m.2.2.1
def mA (m : Mark) : Int := m.2.2.2.1
def loadMarkF_T : Prop := ∀ (l : List Mark) (h : List Ob) (k : Nat) (hk : k < l.length), loadV X0 h 77 (.d (.ref (l.flatMap markT.enc) (k * 4))) = some (.d (.agg [.int .i64 (mR (markT.nth l k)), .int .i64 (mC (markT.nth l k)), .int .i64 (mK (markT.nth l k)), .int .i64 (mA (markT.nth l k))]))
theorem loadMarkF : loadMarkF_T := fun l h k hk => loadMark l h k hk
def loadRMarkF_T : Prop := ∀ (l : List Mark) (h : List Ob) (k : Nat) (hk : k < l.length), loadV X0 h 51 (.d (.ref (l.flatMap markT.enc) (k * 4))) = some (.d (.agg [.int .i64 (mR (markT.nth l k)), .int .i64 (mC (markT.nth l k)), .int .i64 (mK (markT.nth l k)), .int .i64 (mA (markT.nth l k))]))
theorem loadRMarkF : loadRMarkF_T := fun l h k hk => loadRMark l h k hk
abbrev boxP (p : Point) : Ob := .cells [.d (.int .i64 (ptR p)), .d (.int .i64 (ptC p))]
abbrev boxM (m : Mark) : Ob := .cells [.d (.int .i64 (mR m)), .d (.int .i64 (mC m)), .d (.int .i64 (mK m)), .d (.int .i64 (mA m))]
abbrev zeroM : Ob := .cells [.d (.int .i64 0), .d (.int .i64 0), .d (.int .i64 0), .d (.int .i64 0)]
abbrev stPk (F : Nat) (l : List Mark) (p : Point) (b : Mark) (i : Nat) : St := ⟨[(2, .d (.fn F)), (4, .obj 0 0), (6, .obj 1 0), (7, .obj 2 0), (13, .d (markT.slD l)), (14, .d (.int .i64 l.length)), (15, .d (.int .i64 i))], [boxP p, zeroM, boxM b], []⟩
abbrev stPkx (F : Nat) (l : List Mark) (p : Point) (b : Mark) (i : Nat) : St := ⟨[(2, .d (.fn F)), (4, .obj 0 0), (6, .obj 1 0), (7, .obj 2 0), (13, .d (markT.slD l)), (14, .d (.int .i64 l.length)), (15, .d (.int .i64 i)), (16, .d (.bool false))], [boxP p, zeroM, boxM b], []⟩
/-- Is a mark behind a point; is it ahead of it? -/
def isBh (m : Mark) (p : Point) : Prop := ptR p < mR m ∨ (mR m = ptR p ∧ ptC p < mC m)
def isAh (m : Mark) (p : Point) : Prop := mR m < ptR p ∨ (mR m = ptR p ∧ mC m < ptC p)
instance (m : Mark) (p : Point) : Decidable (isBh m p) := by unfold isBh; infer_instance
instance (m : Mark) (p : Point) : Decidable (isAh m p) := by unfold isAh; infer_instance
def pkB1_T : Prop := ∀ (l : List Mark) (p : Point) (b : Mark) (i : Nat) (hl : l.length < 100000000) (hi : i < l.length) (hm : ptR p < mR (markT.nth l i) ∨ (mR (markT.nth l i) = ptR p ∧ ptC p < mC (markT.nth l i))),
    RdC X0 0 (ntOf X0 FPk) (lpKeep X0 FPk 0) (lpBody X0 FPk 0) 3 (stPk fBh l p b i) (stPk fBh l p b (i + 1))
def pkB2_T : Prop := ∀ (l : List Mark) (p : Point) (b : Mark) (i : Nat) (hl : l.length < 100000000) (hi : i < l.length) (hm : ¬ (ptR p < mR (markT.nth l i) ∨ (mR (markT.nth l i) = ptR p ∧ ptC p < mC (markT.nth l i)))),
    RdC X0 0 (ntOf X0 FPk) (lpKeep X0 FPk 0) (lpBody X0 FPk 0) 3 (stPk fBh l p b i) (stPk fBh l p (markT.nth l i) (i + 1))
def pkA1_T : Prop := ∀ (l : List Mark) (p : Point) (b : Mark) (i : Nat) (hl : l.length < 100000000) (hi : i < l.length) (hm : mR (markT.nth l i) < ptR p ∨ (mR (markT.nth l i) = ptR p ∧ mC (markT.nth l i) < ptC p)),
    RdC X0 0 (ntOf X0 FPk) (lpKeep X0 FPk 0) (lpBody X0 FPk 0) 3 (stPk fAh l p b i) (stPk fAh l p b (i + 1))
def pkA2_T : Prop := ∀ (l : List Mark) (p : Point) (b : Mark) (i : Nat) (hl : l.length < 100000000) (hi : i < l.length) (hm : ¬ (mR (markT.nth l i) < ptR p ∨ (mR (markT.nth l i) = ptR p ∧ mC (markT.nth l i) < ptC p))),
    RdC X0 0 (ntOf X0 FPk) (lpKeep X0 FPk 0) (lpBody X0 FPk 0) 3 (stPk fAh l p b i) (stPk fAh l p (markT.nth l i) (i + 1))
def pkBE_T : Prop := ∀ (l : List Mark) (p : Point) (b : Mark), Rd X0 0 (ntOf X0 FPk) (lpBody X0 FPk 0) (stPk fBh l p b l.length) (.exit 0, stPkx fBh l p b l.length)
def pkAE_T : Prop := ∀ (l : List Mark) (p : Point) (b : Mark), Rd X0 0 (ntOf X0 FPk) (lpBody X0 FPk 0) (stPk fAh l p b l.length) (.exit 0, stPkx fAh l p b l.length)
/- the reference's Clip -/
abbrev FRC : Nat := 24
abbrev zeroP : Ob := .cells [.d (.int .i64 0), .d (.int .i64 0)]
abbrev stR0 (l : List Mark) (p : Point) (r c : Int) (i : Nat) : St := ⟨[(4, .obj 0 0), (6, .obj 1 0), (8, .obj 2 0), (21, .d (markT.slD l)), (22, .d (.int .i64 l.length)), (23, .d (.int .i64 i))], [boxP p, zeroP, .cells [.d (.int .i64 r), .d (.int .i64 c)]], []⟩
abbrev stR0x (l : List Mark) (p : Point) (r c : Int) (i : Nat) : St := ⟨[(4, .obj 0 0), (6, .obj 1 0), (8, .obj 2 0), (21, .d (markT.slD l)), (22, .d (.int .i64 l.length)), (23, .d (.int .i64 i)), (24, .d (.bool false))], [boxP p, zeroP, .cells [.d (.int .i64 r), .d (.int .i64 c)]], []⟩
abbrev stR1 (l : List Mark) (p : Point) (i : Nat) : St := ⟨[(4, .obj 0 0), (6, .obj 1 0), (7, .d (markT.slD l)), (36, .d (markT.slD l)), (37, .d (.int .i64 l.length)), (38, .d (.int .i64 i))], [boxP p, zeroP], []⟩
abbrev stR1x (l : List Mark) (p : Point) (i : Nat) : St := ⟨[(4, .obj 0 0), (6, .obj 1 0), (7, .d (markT.slD l)), (36, .d (markT.slD l)), (37, .d (.int .i64 l.length)), (38, .d (.int .i64 i)), (39, .d (.bool false))], [boxP p, zeroP], []⟩
def rc1_T : Prop := ∀ (l : List Mark) (p : Point) (r c : Int) (i : Nat) (hl : l.length < 100000000) (hi : i < l.length) (hm : ptR p < mR (markT.nth l i) ∨ (ptR p = mR (markT.nth l i) ∧ ptC p < mC (markT.nth l i))),
    RdC X0 0 (ntOf X0 FRC) (lpKeep X0 FRC 0) (lpBody X0 FRC 0) 3 (stR0 l p r c i) (stR0 l p r c (i + 1))
def rc2_T : Prop := ∀ (l : List Mark) (p : Point) (r c : Int) (i : Nat) (hl : l.length < 100000000) (hi : i < l.length) (hm : ¬ (ptR p < mR (markT.nth l i) ∨ (ptR p = mR (markT.nth l i) ∧ ptC p < mC (markT.nth l i)))),
    RdC X0 0 (ntOf X0 FRC) (lpKeep X0 FRC 0) (lpBody X0 FRC 0) 3 (stR0 l p r c i) (stR0 l p (mR (markT.nth l i)) (mC (markT.nth l i)) (i + 1))
def rc0E_T : Prop := ∀ (l : List Mark) (p : Point) (r c : Int), Rd X0 0 (ntOf X0 FRC) (lpBody X0 FRC 0) (stR0 l p r c l.length) (.exit 0, stR0x l p r c l.length)
def rc3_T : Prop := ∀ (l : List Mark) (p : Point) (i : Nat) (hl : l.length < 100000000) (hi : i < l.length) (hm : mR (markT.nth l i) < ptR p ∨ (mR (markT.nth l i) = ptR p ∧ mC (markT.nth l i) < ptC p)),
    RdC X0 0 (ntOf X0 FRC) (lpKeep X0 FRC 1) (lpBody X0 FRC 1) 2 (stR1 l p i) (stR1 l p (i + 1))
def rc4_T : Prop := ∀ (l : List Mark) (p : Point) (i : Nat) (hl : l.length < 100000000) (hi : i < l.length) (hm : ¬ (mR (markT.nth l i) < ptR p ∨ (mR (markT.nth l i) = ptR p ∧ mC (markT.nth l i) < ptC p))),
    Rd X0 0 (ntOf X0 FRC) (lpBody X0 FRC 1) (stR1 l p i) (.ret, ⟨[(6, .obj 1 0)], [boxP p, .cells [.d (.int .i64 (mR (markT.nth l i))), .d (.int .i64 (mC (markT.nth l i)))], boxM (markT.nth l i)], []⟩)
def rc1E_T : Prop := ∀ (l : List Mark) (p : Point), Rd X0 0 (ntOf X0 FRC) (lpBody X0 FRC 1) (stR1 l p l.length) (.exit 2, stR1x l p l.length)
end Go.Proofs.Ytaobccodpdmieaa.Points
/- Points: paths, printed by a program of mine. -/
set_option maxRecDepth 100000
set_option linter.unusedSimpArgs false
set_option linter.unusedVariables false
namespace Go.Proofs.Ytaobccodpdmieaa.Points
open Go Pv G
set_option maxHeartbeats 4000000 in
theorem pkB1 : pkB1_T := by
  intro l p b i hl hi hm
  have h0 : (decide ((↑i : Int) < (↑(List.length l) : Int))) = true := by (((try simp only [eq_self, and_true, true_and, Bool.and_true, Bool.true_and, Bool.not_eq_true', Bool.not_eq_false', Bool.and_eq_true, Bool.and_eq_false_iff, decide_eq_true_eq, decide_eq_false_iff_not, beq_iff_eq, beq_eq_false_iff_ne, bne_iff_ne, bne_eq_false_iff_eq, ne_eq, not_and, Int.toNat_natCast] at *); (try simp only [Row.cells, Row.wrapped, Row.end_, Cell.kind, Cell.at] at *); (try simp (disch := omega) only [wrapId, toNatAdd, toNatSucc, isAt, reduceCtorEq, or_false, and_true, Bool.and_true, Bool.and_eq_true, Bool.and_eq_false_iff, beq_iff_eq, beq_eq_false_iff_ne, ne_eq, Int.toNat_natCast] at *)) <;> first | omega | assumption | (refine ⟨?_, ?_⟩ <;> assumption))
  rcases Bool.eq_false_or_eq_true (decide ((mR (Ty.nth markT l (Int.toNat (↑i : Int)))) > (ptR p))) with h1 | h1
  · exact (pC (st' := { s := [((nat_lit 2), (V.d (D.fn (nat_lit 36)))), ((nat_lit 4), (V.obj (nat_lit 0) (nat_lit 0))), ((nat_lit 6), (V.obj (nat_lit 1) (nat_lit 0))), ((nat_lit 7), (V.obj (nat_lit 2) (nat_lit 0))), ((nat_lit 13), (V.d (D.sl (List.flatMap (Ty.enc markT) l) (List.length l)))), ((nat_lit 14), (V.d (D.int IntKind.i64 (↑(List.length l) : Int)))), ((nat_lit 15), (V.d (D.int IntKind.i64 (IntKind.wrap IntKind.i64 ((↑i : Int) + (1 : Int))))))], h := [(Ob.cells [(V.d (D.int IntKind.i64 (ptR p))), (V.d (D.int IntKind.i64 (ptC p)))]), (Ob.cells [(V.d (D.int IntKind.i64 (0 : Int))), (V.d (D.int IntKind.i64 (0 : Int))), (V.d (D.int IntKind.i64 (0 : Int))), (V.d (D.int IntKind.i64 (0 : Int)))]), (Ob.cells [(V.d (D.int IntKind.i64 (mR b))), (V.d (D.int IntKind.i64 (mC b))), (V.d (D.int IntKind.i64 (mK b))), (V.d (D.int IntKind.i64 (mA b)))])], og := [] }) 12 [(1, bt), (2, .v (V.d (D.ref (List.flatMap (Ty.enc markT) l) ((Int.toNat (↑i : Int)) * (4 : Nat))))), (3, .v (V.d (D.agg [(D.int IntKind.i64 (mR (Ty.nth markT l (Int.toNat (↑i : Int))))), (D.int IntKind.i64 (mC (Ty.nth markT l (Int.toNat (↑i : Int))))), (D.int IntKind.i64 (mK (Ty.nth markT l (Int.toNat (↑i : Int))))), (D.int IntKind.i64 (mA (Ty.nth markT l (Int.toNat (↑i : Int)))))]))), (10, bt), (11, bt), (12, bt), (13, bt), (14, bt), (15, bt), (16, bt), (17, bt), (18, bt)] (cP h1 (cP h1 (cP h1 (cP h1 (cP h1 (cP h1 (cP h1 (cP h1 (cP h1 (cP (@loadMarkF (l) ([(Ob.cells [(V.d (D.int IntKind.i64 (ptR p))), (V.d (D.int IntKind.i64 (ptC p)))]), (Ob.cells [(V.d (D.int IntKind.i64 (0 : Int))), (V.d (D.int IntKind.i64 (0 : Int))), (V.d (D.int IntKind.i64 (0 : Int))), (V.d (D.int IntKind.i64 (0 : Int)))]), (Ob.cells [(V.d (D.int IntKind.i64 (mR b))), (V.d (D.int IntKind.i64 (mC b))), (V.d (D.int IntKind.i64 (mK b))), (V.d (D.int IntKind.i64 (mA b)))])]) (Int.toNat (↑i : Int)) (by (((try simp only [eq_self, and_true, true_and, Bool.and_true, Bool.true_and, Bool.not_eq_true', Bool.not_eq_false', Bool.and_eq_true, Bool.and_eq_false_iff, decide_eq_true_eq, decide_eq_false_iff_not, beq_iff_eq, beq_eq_false_iff_ne, bne_iff_ne, bne_eq_false_iff_eq, ne_eq, not_and, Int.toNat_natCast] at *); (try simp only [Row.cells, Row.wrapped, Row.end_, Cell.kind, Cell.at] at *); (try simp (disch := omega) only [wrapId, toNatAdd, toNatSucc, isAt, reduceCtorEq, or_false, and_true, Bool.and_true, Bool.and_eq_true, Bool.and_eq_false_iff, beq_iff_eq, beq_eq_false_iff_ne, ne_eq, Int.toNat_natCast] at *)) <;> first | omega | assumption | (refine ⟨?_, ?_⟩ <;> assumption)))) (cP (@iaddrMark (l) ((↑i : Int)) (by (((try simp only [eq_self, and_true, true_and, Bool.and_true, Bool.true_and, Bool.not_eq_true', Bool.not_eq_false', Bool.and_eq_true, Bool.and_eq_false_iff, decide_eq_true_eq, decide_eq_false_iff_not, beq_iff_eq, beq_eq_false_iff_ne, bne_iff_ne, bne_eq_false_iff_eq, ne_eq, not_and, Int.toNat_natCast] at *); (try simp only [Row.cells, Row.wrapped, Row.end_, Cell.kind, Cell.at] at *); (try simp (disch := omega) only [wrapId, toNatAdd, toNatSucc, isAt, reduceCtorEq, or_false, and_true, Bool.and_true, Bool.and_eq_true, Bool.and_eq_false_iff, beq_iff_eq, beq_eq_false_iff_ne, ne_eq, Int.toNat_natCast] at *)) <;> first | omega | assumption | (refine ⟨?_, ?_⟩ <;> assumption))) (by (((try simp only [eq_self, and_true, true_and, Bool.and_true, Bool.true_and, Bool.not_eq_true', Bool.not_eq_false', Bool.and_eq_true, Bool.and_eq_false_iff, decide_eq_true_eq, decide_eq_false_iff_not, beq_iff_eq, beq_eq_false_iff_ne, bne_iff_ne, bne_eq_false_iff_eq, ne_eq, not_and, Int.toNat_natCast] at *); (try simp only [Row.cells, Row.wrapped, Row.end_, Cell.kind, Cell.at] at *); (try simp (disch := omega) only [wrapId, toNatAdd, toNatSucc, isAt, reduceCtorEq, or_false, and_true, Bool.and_true, Bool.and_eq_true, Bool.and_eq_false_iff, beq_iff_eq, beq_eq_false_iff_ne, ne_eq, Int.toNat_natCast] at *)) <;> first | omega | assumption | (refine ⟨?_, ?_⟩ <;> assumption)))) (cP h0 nilE)))))))))))) (by kernel_rfl)).to (by ((try simp (disch := omega) only [wrapId, toNatAdd, toNatSucc, goesOn, Row.wrapped] at *); (try simp only [Int.toNat_natCast, beq_iff_eq, beq_eq_false_iff_ne, bne_iff_ne, bne_eq_false_iff_eq, ne_eq, Int.natCast_eq_zero, Int.natCast_inj, Row.cells] at *); first | (simp (disch := omega) [Ty.enc, stopAt, endMark, lineMarks, lineM, lineA, lineW, Row.end_, inA, inW, inM, mk, Cell.kind, Cell.at, Row.cells, wrapId, mP, isAt, toNatPred, toNatAdd, toNatSucc, goesOn, ltF, ltT, Row.wrapped, Ty.slD, *]; done) | (subst_vars; simp (disch := omega) [Ty.enc, stopAt, endMark, lineMarks, lineM, lineA, lineW, Row.end_, inA, inW, inM, mk, Cell.kind, Cell.at, Row.cells, wrapId, mP, isAt, toNatPred, toNatAdd, toNatSucc, goesOn, ltF, ltT, Row.wrapped, Ty.slD, *]; done)))
  · have h2 : ((mR (Ty.nth markT l (Int.toNat (↑i : Int)))) == (ptR p)) = true := by (((try simp only [eq_self, and_true, true_and, Bool.and_true, Bool.true_and, Bool.not_eq_true', Bool.not_eq_false', Bool.and_eq_true, Bool.and_eq_false_iff, decide_eq_true_eq, decide_eq_false_iff_not, beq_iff_eq, beq_eq_false_iff_ne, bne_iff_ne, bne_eq_false_iff_eq, ne_eq, not_and, Int.toNat_natCast] at *); (try simp only [Row.cells, Row.wrapped, Row.end_, Cell.kind, Cell.at] at *); (try simp (disch := omega) only [wrapId, toNatAdd, toNatSucc, isAt, reduceCtorEq, or_false, and_true, Bool.and_true, Bool.and_eq_true, Bool.and_eq_false_iff, beq_iff_eq, beq_eq_false_iff_ne, ne_eq, Int.toNat_natCast] at *)) <;> first | omega | assumption | (refine ⟨?_, ?_⟩ <;> assumption))
    have h3 : (!(decide ((mC (Ty.nth markT l (Int.toNat (↑i : Int)))) > (ptC p)))) = false := by (((try simp only [eq_self, and_true, true_and, Bool.and_true, Bool.true_and, Bool.not_eq_true', Bool.not_eq_false', Bool.and_eq_true, Bool.and_eq_false_iff, decide_eq_true_eq, decide_eq_false_iff_not, beq_iff_eq, beq_eq_false_iff_ne, bne_iff_ne, bne_eq_false_iff_eq, ne_eq, not_and, Int.toNat_natCast] at *); (try simp only [Row.cells, Row.wrapped, Row.end_, Cell.kind, Cell.at] at *); (try simp (disch := omega) only [wrapId, toNatAdd, toNatSucc, isAt, reduceCtorEq, or_false, and_true, Bool.and_true, Bool.and_eq_true, Bool.and_eq_false_iff, beq_iff_eq, beq_eq_false_iff_ne, ne_eq, Int.toNat_natCast] at *)) <;> first | omega | assumption | (refine ⟨?_, ?_⟩ <;> assumption))
    exact (pC (st' := { s := [((nat_lit 2), (V.d (D.fn (nat_lit 36)))), ((nat_lit 4), (V.obj (nat_lit 0) (nat_lit 0))), ((nat_lit 6), (V.obj (nat_lit 1) (nat_lit 0))), ((nat_lit 7), (V.obj (nat_lit 2) (nat_lit 0))), ((nat_lit 13), (V.d (D.sl (List.flatMap (Ty.enc markT) l) (List.length l)))), ((nat_lit 14), (V.d (D.int IntKind.i64 (↑(List.length l) : Int)))), ((nat_lit 15), (V.d (D.int IntKind.i64 (IntKind.wrap IntKind.i64 ((↑i : Int) + (1 : Int))))))], h := [(Ob.cells [(V.d (D.int IntKind.i64 (ptR p))), (V.d (D.int IntKind.i64 (ptC p)))]), (Ob.cells [(V.d (D.int IntKind.i64 (0 : Int))), (V.d (D.int IntKind.i64 (0 : Int))), (V.d (D.int IntKind.i64 (0 : Int))), (V.d (D.int IntKind.i64 (0 : Int)))]), (Ob.cells [(V.d (D.int IntKind.i64 (mR b))), (V.d (D.int IntKind.i64 (mC b))), (V.d (D.int IntKind.i64 (mK b))), (V.d (D.int IntKind.i64 (mA b)))])], og := [] }) 12 [(1, bt), (2, .v (V.d (D.ref (List.flatMap (Ty.enc markT) l) ((Int.toNat (↑i : Int)) * (4 : Nat))))), (3, .v (V.d (D.agg [(D.int IntKind.i64 (mR (Ty.nth markT l (Int.toNat (↑i : Int))))), (D.int IntKind.i64 (mC (Ty.nth markT l (Int.toNat (↑i : Int))))), (D.int IntKind.i64 (mK (Ty.nth markT l (Int.toNat (↑i : Int))))), (D.int IntKind.i64 (mA (Ty.nth markT l (Int.toNat (↑i : Int)))))]))), (10, bf), (11, bf), (12, bf), (14, bf), (15, bf), (17, bf), (19, bf), (20, bt), (21, bt), (22, bt), (24, bt), (25, bt), (27, bt), (29, bf), (30, bt), (31, bf), (32, bf)] (cP h3 (cP h1 (cP h2 (cP h1 (cP h2 (cP h2 (cP h2 (cP h2 (cP h2 (cP h2 (cP h1 (cP h1 (cP h1 (cP h1 (cP h1 (cP h1 (cP h1 (cP (@loadMarkF (l) ([(Ob.cells [(V.d (D.int IntKind.i64 (ptR p))), (V.d (D.int IntKind.i64 (ptC p)))]), (Ob.cells [(V.d (D.int IntKind.i64 (0 : Int))), (V.d (D.int IntKind.i64 (0 : Int))), (V.d (D.int IntKind.i64 (0 : Int))), (V.d (D.int IntKind.i64 (0 : Int)))]), (Ob.cells [(V.d (D.int IntKind.i64 (mR b))), (V.d (D.int IntKind.i64 (mC b))), (V.d (D.int IntKind.i64 (mK b))), (V.d (D.int IntKind.i64 (mA b)))])]) (Int.toNat (↑i : Int)) (by (((try simp only [eq_self, and_true, true_and, Bool.and_true, Bool.true_and, Bool.not_eq_true', Bool.not_eq_false', Bool.and_eq_true, Bool.and_eq_false_iff, decide_eq_true_eq, decide_eq_false_iff_not, beq_iff_eq, beq_eq_false_iff_ne, bne_iff_ne, bne_eq_false_iff_eq, ne_eq, not_and, Int.toNat_natCast] at *); (try simp only [Row.cells, Row.wrapped, Row.end_, Cell.kind, Cell.at] at *); (try simp (disch := omega) only [wrapId, toNatAdd, toNatSucc, isAt, reduceCtorEq, or_false, and_true, Bool.and_true, Bool.and_eq_true, Bool.and_eq_false_iff, beq_iff_eq, beq_eq_false_iff_ne, ne_eq, Int.toNat_natCast] at *)) <;> first | omega | assumption | (refine ⟨?_, ?_⟩ <;> assumption)))) (cP (@iaddrMark (l) ((↑i : Int)) (by (((try simp only [eq_self, and_true, true_and, Bool.and_true, Bool.true_and, Bool.not_eq_true', Bool.not_eq_false', Bool.and_eq_true, Bool.and_eq_false_iff, decide_eq_true_eq, decide_eq_false_iff_not, beq_iff_eq, beq_eq_false_iff_ne, bne_iff_ne, bne_eq_false_iff_eq, ne_eq, not_and, Int.toNat_natCast] at *); (try simp only [Row.cells, Row.wrapped, Row.end_, Cell.kind, Cell.at] at *); (try simp (disch := omega) only [wrapId, toNatAdd, toNatSucc, isAt, reduceCtorEq, or_false, and_true, Bool.and_true, Bool.and_eq_true, Bool.and_eq_false_iff, beq_iff_eq, beq_eq_false_iff_ne, ne_eq, Int.toNat_natCast] at *)) <;> first | omega | assumption | (refine ⟨?_, ?_⟩ <;> assumption))) (by (((try simp only [eq_self, and_true, true_and, Bool.and_true, Bool.true_and, Bool.not_eq_true', Bool.not_eq_false', Bool.and_eq_true, Bool.and_eq_false_iff, decide_eq_true_eq, decide_eq_false_iff_not, beq_iff_eq, beq_eq_false_iff_ne, bne_iff_ne, bne_eq_false_iff_eq, ne_eq, not_and, Int.toNat_natCast] at *); (try simp only [Row.cells, Row.wrapped, Row.end_, Cell.kind, Cell.at] at *); (try simp (disch := omega) only [wrapId, toNatAdd, toNatSucc, isAt, reduceCtorEq, or_false, and_true, Bool.and_true, Bool.and_eq_true, Bool.and_eq_false_iff, beq_iff_eq, beq_eq_false_iff_ne, ne_eq, Int.toNat_natCast] at *)) <;> first | omega | assumption | (refine ⟨?_, ?_⟩ <;> assumption)))) (cP h0 nilE)))))))))))))))))))) (by kernel_rfl)).to (by ((try simp (disch := omega) only [wrapId, toNatAdd, toNatSucc, goesOn, Row.wrapped] at *); (try simp only [Int.toNat_natCast, beq_iff_eq, beq_eq_false_iff_ne, bne_iff_ne, bne_eq_false_iff_eq, ne_eq, Int.natCast_eq_zero, Int.natCast_inj, Row.cells] at *); first | (simp (disch := omega) [Ty.enc, stopAt, endMark, lineMarks, lineM, lineA, lineW, Row.end_, inA, inW, inM, mk, Cell.kind, Cell.at, Row.cells, wrapId, mP, isAt, toNatPred, toNatAdd, toNatSucc, goesOn, ltF, ltT, Row.wrapped, Ty.slD, *]; done) | (subst_vars; simp (disch := omega) [Ty.enc, stopAt, endMark, lineMarks, lineM, lineA, lineW, Row.end_, inA, inW, inM, mk, Cell.kind, Cell.at, Row.cells, wrapId, mP, isAt, toNatPred, toNatAdd, toNatSucc, goesOn, ltF, ltT, Row.wrapped, Ty.slD, *]; done)))
set_option maxHeartbeats 4000000 in
theorem pkB2 : pkB2_T := by
  intro l p b i hl hi hm
  have h0 : (decide ((↑i : Int) < (↑(List.length l) : Int))) = true := by (((try simp only [eq_self, and_true, true_and, Bool.and_true, Bool.true_and, Bool.not_eq_true', Bool.not_eq_false', Bool.and_eq_true, Bool.and_eq_false_iff, decide_eq_true_eq, decide_eq_false_iff_not, beq_iff_eq, beq_eq_false_iff_ne, bne_iff_ne, bne_eq_false_iff_eq, ne_eq, not_and, Int.toNat_natCast] at *); (try simp only [Row.cells, Row.wrapped, Row.end_, Cell.kind, Cell.at] at *); (try simp (disch := omega) only [wrapId, toNatAdd, toNatSucc, isAt, reduceCtorEq, or_false, and_true, Bool.and_true, Bool.and_eq_true, Bool.and_eq_false_iff, beq_iff_eq, beq_eq_false_iff_ne, ne_eq, Int.toNat_natCast] at *)) <;> first | omega | assumption | (refine ⟨?_, ?_⟩ <;> assumption))
  have h1 : (decide ((mR (Ty.nth markT l (Int.toNat (↑i : Int)))) > (ptR p))) = false := by (((try simp only [eq_self, and_true, true_and, Bool.and_true, Bool.true_and, Bool.not_eq_true', Bool.not_eq_false', Bool.and_eq_true, Bool.and_eq_false_iff, decide_eq_true_eq, decide_eq_false_iff_not, beq_iff_eq, beq_eq_false_iff_ne, bne_iff_ne, bne_eq_false_iff_eq, ne_eq, not_and, Int.toNat_natCast] at *); (try simp only [Row.cells, Row.wrapped, Row.end_, Cell.kind, Cell.at] at *); (try simp (disch := omega) only [wrapId, toNatAdd, toNatSucc, isAt, reduceCtorEq, or_false, and_true, Bool.and_true, Bool.and_eq_true, Bool.and_eq_false_iff, beq_iff_eq, beq_eq_false_iff_ne, ne_eq, Int.toNat_natCast] at *)) <;> first | omega | assumption | (refine ⟨?_, ?_⟩ <;> assumption))
  rcases Bool.eq_false_or_eq_true ((mR (Ty.nth markT l (Int.toNat (↑i : Int)))) == (ptR p)) with h2 | h2
  · have h3 : (!(decide ((mC (Ty.nth markT l (Int.toNat (↑i : Int)))) > (ptC p)))) = true := by (((try simp only [eq_self, and_true, true_and, Bool.and_true, Bool.true_and, Bool.not_eq_true', Bool.not_eq_false', Bool.and_eq_true, Bool.and_eq_false_iff, decide_eq_true_eq, decide_eq_false_iff_not, beq_iff_eq, beq_eq_false_iff_ne, bne_iff_ne, bne_eq_false_iff_eq, ne_eq, not_and, Int.toNat_natCast] at *); (try simp only [Row.cells, Row.wrapped, Row.end_, Cell.kind, Cell.at] at *); (try simp (disch := omega) only [wrapId, toNatAdd, toNatSucc, isAt, reduceCtorEq, or_false, and_true, Bool.and_true, Bool.and_eq_true, Bool.and_eq_false_iff, beq_iff_eq, beq_eq_false_iff_ne, ne_eq, Int.toNat_natCast] at *)) <;> first | omega | assumption | (refine ⟨?_, ?_⟩ <;> assumption))
    exact (pC (st' := { s := [((nat_lit 2), (V.d (D.fn (nat_lit 36)))), ((nat_lit 4), (V.obj (nat_lit 0) (nat_lit 0))), ((nat_lit 6), (V.obj (nat_lit 1) (nat_lit 0))), ((nat_lit 7), (V.obj (nat_lit 2) (nat_lit 0))), ((nat_lit 13), (V.d (D.sl (List.flatMap (Ty.enc markT) l) (List.length l)))), ((nat_lit 14), (V.d (D.int IntKind.i64 (↑(List.length l) : Int)))), ((nat_lit 15), (V.d (D.int IntKind.i64 (IntKind.wrap IntKind.i64 ((↑i : Int) + (1 : Int))))))], h := [(Ob.cells [(V.d (D.int IntKind.i64 (ptR p))), (V.d (D.int IntKind.i64 (ptC p)))]), (Ob.cells [(V.d (D.int IntKind.i64 (0 : Int))), (V.d (D.int IntKind.i64 (0 : Int))), (V.d (D.int IntKind.i64 (0 : Int))), (V.d (D.int IntKind.i64 (0 : Int)))]), (Ob.cells [(V.d (D.int IntKind.i64 (mR (Ty.nth markT l (Int.toNat (↑i : Int)))))), (V.d (D.int IntKind.i64 (mC (Ty.nth markT l (Int.toNat (↑i : Int)))))), (V.d (D.int IntKind.i64 (mK (Ty.nth markT l (Int.toNat (↑i : Int)))))), (V.d (D.int IntKind.i64 (mA (Ty.nth markT l (Int.toNat (↑i : Int))))))])], og := [] }) 12 [(1, bt), (2, .v (V.d (D.ref (List.flatMap (Ty.enc markT) l) ((Int.toNat (↑i : Int)) * (4 : Nat))))), (3, .v (V.d (D.agg [(D.int IntKind.i64 (mR (Ty.nth markT l (Int.toNat (↑i : Int))))), (D.int IntKind.i64 (mC (Ty.nth markT l (Int.toNat (↑i : Int))))), (D.int IntKind.i64 (mK (Ty.nth markT l (Int.toNat (↑i : Int))))), (D.int IntKind.i64 (mA (Ty.nth markT l (Int.toNat (↑i : Int)))))]))), (10, bf), (11, bf), (12, bf), (14, bf), (15, bf), (17, bf), (19, bf), (20, bt), (21, bt), (22, bt), (24, bt), (25, bt), (27, bt), (29, bf), (30, bt), (31, bf), (32, bt)] (cP h3 (cP h1 (cP h2 (cP h1 (cP h2 (cP h2 (cP h2 (cP h2 (cP h2 (cP h2 (cP h1 (cP h1 (cP h1 (cP h1 (cP h1 (cP h1 (cP h1 (cP (@loadMarkF (l) ([(Ob.cells [(V.d (D.int IntKind.i64 (ptR p))), (V.d (D.int IntKind.i64 (ptC p)))]), (Ob.cells [(V.d (D.int IntKind.i64 (0 : Int))), (V.d (D.int IntKind.i64 (0 : Int))), (V.d (D.int IntKind.i64 (0 : Int))), (V.d (D.int IntKind.i64 (0 : Int)))]), (Ob.cells [(V.d (D.int IntKind.i64 (mR b))), (V.d (D.int IntKind.i64 (mC b))), (V.d (D.int IntKind.i64 (mK b))), (V.d (D.int IntKind.i64 (mA b)))])]) (Int.toNat (↑i : Int)) (by (((try simp only [eq_self, and_true, true_and, Bool.and_true, Bool.true_and, Bool.not_eq_true', Bool.not_eq_false', Bool.and_eq_true, Bool.and_eq_false_iff, decide_eq_true_eq, decide_eq_false_iff_not, beq_iff_eq, beq_eq_false_iff_ne, bne_iff_ne, bne_eq_false_iff_eq, ne_eq, not_and, Int.toNat_natCast] at *); (try simp only [Row.cells, Row.wrapped, Row.end_, Cell.kind, Cell.at] at *); (try simp (disch := omega) only [wrapId, toNatAdd, toNatSucc, isAt, reduceCtorEq, or_false, and_true, Bool.and_true, Bool.and_eq_true, Bool.and_eq_false_iff, beq_iff_eq, beq_eq_false_iff_ne, ne_eq, Int.toNat_natCast] at *)) <;> first | omega | assumption | (refine ⟨?_, ?_⟩ <;> assumption)))) (cP (@iaddrMark (l) ((↑i : Int)) (by (((try simp only [eq_self, and_true, true_and, Bool.and_true, Bool.true_and, Bool.not_eq_true', Bool.not_eq_false', Bool.and_eq_true, Bool.and_eq_false_iff, decide_eq_true_eq, decide_eq_false_iff_not, beq_iff_eq, beq_eq_false_iff_ne, bne_iff_ne, bne_eq_false_iff_eq, ne_eq, not_and, Int.toNat_natCast] at *); (try simp only [Row.cells, Row.wrapped, Row.end_, Cell.kind, Cell.at] at *); (try simp (disch := omega) only [wrapId, toNatAdd, toNatSucc, isAt, reduceCtorEq, or_false, and_true, Bool.and_true, Bool.and_eq_true, Bool.and_eq_false_iff, beq_iff_eq, beq_eq_false_iff_ne, ne_eq, Int.toNat_natCast] at *)) <;> first | omega | assumption | (refine ⟨?_, ?_⟩ <;> assumption))) (by (((try simp only [eq_self, and_true, true_and, Bool.and_true, Bool.true_and, Bool.not_eq_true', Bool.not_eq_false', Bool.and_eq_true, Bool.and_eq_false_iff, decide_eq_true_eq, decide_eq_false_iff_not, beq_iff_eq, beq_eq_false_iff_ne, bne_iff_ne, bne_eq_false_iff_eq, ne_eq, not_and, Int.toNat_natCast] at *); (try simp only [Row.cells, Row.wrapped, Row.end_, Cell.kind, Cell.at] at *); (try simp (disch := omega) only [wrapId, toNatAdd, toNatSucc, isAt, reduceCtorEq, or_false, and_true, Bool.and_true, Bool.and_eq_true, Bool.and_eq_false_iff, beq_iff_eq, beq_eq_false_iff_ne, ne_eq, Int.toNat_natCast] at *)) <;> first | omega | assumption | (refine ⟨?_, ?_⟩ <;> assumption)))) (cP h0 nilE)))))))))))))))))))) (by kernel_rfl)).to (by ((try simp (disch := omega) only [wrapId, toNatAdd, toNatSucc, goesOn, Row.wrapped] at *); (try simp only [Int.toNat_natCast, beq_iff_eq, beq_eq_false_iff_ne, bne_iff_ne, bne_eq_false_iff_eq, ne_eq, Int.natCast_eq_zero, Int.natCast_inj, Row.cells] at *); first | (simp (disch := omega) [Ty.enc, stopAt, endMark, lineMarks, lineM, lineA, lineW, Row.end_, inA, inW, inM, mk, Cell.kind, Cell.at, Row.cells, wrapId, mP, isAt, toNatPred, toNatAdd, toNatSucc, goesOn, ltF, ltT, Row.wrapped, Ty.slD, *]; done) | (subst_vars; simp (disch := omega) [Ty.enc, stopAt, endMark, lineMarks, lineM, lineA, lineW, Row.end_, inA, inW, inM, mk, Cell.kind, Cell.at, Row.cells, wrapId, mP, isAt, toNatPred, toNatAdd, toNatSucc, goesOn, ltF, ltT, Row.wrapped, Ty.slD, *]; done)))
  · exact (pC (st' := { s := [((nat_lit 2), (V.d (D.fn (nat_lit 36)))), ((nat_lit 4), (V.obj (nat_lit 0) (nat_lit 0))), ((nat_lit 6), (V.obj (nat_lit 1) (nat_lit 0))), ((nat_lit 7), (V.obj (nat_lit 2) (nat_lit 0))), ((nat_lit 13), (V.d (D.sl (List.flatMap (Ty.enc markT) l) (List.length l)))), ((nat_lit 14), (V.d (D.int IntKind.i64 (↑(List.length l) : Int)))), ((nat_lit 15), (V.d (D.int IntKind.i64 (IntKind.wrap IntKind.i64 ((↑i : Int) + (1 : Int))))))], h := [(Ob.cells [(V.d (D.int IntKind.i64 (ptR p))), (V.d (D.int IntKind.i64 (ptC p)))]), (Ob.cells [(V.d (D.int IntKind.i64 (0 : Int))), (V.d (D.int IntKind.i64 (0 : Int))), (V.d (D.int IntKind.i64 (0 : Int))), (V.d (D.int IntKind.i64 (0 : Int)))]), (Ob.cells [(V.d (D.int IntKind.i64 (mR (Ty.nth markT l (Int.toNat (↑i : Int)))))), (V.d (D.int IntKind.i64 (mC (Ty.nth markT l (Int.toNat (↑i : Int)))))), (V.d (D.int IntKind.i64 (mK (Ty.nth markT l (Int.toNat (↑i : Int)))))), (V.d (D.int IntKind.i64 (mA (Ty.nth markT l (Int.toNat (↑i : Int))))))])], og := [] }) 12 [(1, bt), (2, .v (V.d (D.ref (List.flatMap (Ty.enc markT) l) ((Int.toNat (↑i : Int)) * (4 : Nat))))), (3, .v (V.d (D.agg [(D.int IntKind.i64 (mR (Ty.nth markT l (Int.toNat (↑i : Int))))), (D.int IntKind.i64 (mC (Ty.nth markT l (Int.toNat (↑i : Int))))), (D.int IntKind.i64 (mK (Ty.nth markT l (Int.toNat (↑i : Int))))), (D.int IntKind.i64 (mA (Ty.nth markT l (Int.toNat (↑i : Int)))))]))), (10, bf), (11, bf), (12, bf), (14, bf), (15, bf), (17, bf), (19, bf), (20, bf), (21, bf), (22, bf), (23, bf), (24, bf), (25, bf), (26, bf), (27, bf), (28, bf)] (cP h1 (cP h2 (cP h1 (cP h2 (cP h2 (cP h2 (cP h2 (cP h2 (cP h2 (cP h1 (cP h1 (cP h1 (cP h1 (cP h1 (cP h1 (cP h1 (cP (@loadMarkF (l) ([(Ob.cells [(V.d (D.int IntKind.i64 (ptR p))), (V.d (D.int IntKind.i64 (ptC p)))]), (Ob.cells [(V.d (D.int IntKind.i64 (0 : Int))), (V.d (D.int IntKind.i64 (0 : Int))), (V.d (D.int IntKind.i64 (0 : Int))), (V.d (D.int IntKind.i64 (0 : Int)))]), (Ob.cells [(V.d (D.int IntKind.i64 (mR b))), (V.d (D.int IntKind.i64 (mC b))), (V.d (D.int IntKind.i64 (mK b))), (V.d (D.int IntKind.i64 (mA b)))])]) (Int.toNat (↑i : Int)) (by (((try simp only [eq_self, and_true, true_and, Bool.and_true, Bool.true_and, Bool.not_eq_true', Bool.not_eq_false', Bool.and_eq_true, Bool.and_eq_false_iff, decide_eq_true_eq, decide_eq_false_iff_not, beq_iff_eq, beq_eq_false_iff_ne, bne_iff_ne, bne_eq_false_iff_eq, ne_eq, not_and, Int.toNat_natCast] at *); (try simp only [Row.cells, Row.wrapped, Row.end_, Cell.kind, Cell.at] at *); (try simp (disch := omega) only [wrapId, toNatAdd, toNatSucc, isAt, reduceCtorEq, or_false, and_true, Bool.and_true, Bool.and_eq_true, Bool.and_eq_false_iff, beq_iff_eq, beq_eq_false_iff_ne, ne_eq, Int.toNat_natCast] at *)) <;> first | omega | assumption | (refine ⟨?_, ?_⟩ <;> assumption)))) (cP (@iaddrMark (l) ((↑i : Int)) (by (((try simp only [eq_self, and_true, true_and, Bool.and_true, Bool.true_and, Bool.not_eq_true', Bool.not_eq_false', Bool.and_eq_true, Bool.and_eq_false_iff, decide_eq_true_eq, decide_eq_false_iff_not, beq_iff_eq, beq_eq_false_iff_ne, bne_iff_ne, bne_eq_false_iff_eq, ne_eq, not_and, Int.toNat_natCast] at *); (try simp only [Row.cells, Row.wrapped, Row.end_, Cell.kind, Cell.at] at *); (try simp (disch := omega) only [wrapId, toNatAdd, toNatSucc, isAt, reduceCtorEq, or_false, and_true, Bool.and_true, Bool.and_eq_true, Bool.and_eq_false_iff, beq_iff_eq, beq_eq_false_iff_ne, ne_eq, Int.toNat_natCast] at *)) <;> first | omega | assumption | (refine ⟨?_, ?_⟩ <;> assumption))) (by (((try simp only [eq_self, and_true, true_and, Bool.and_true, Bool.true_and, Bool.not_eq_true', Bool.not_eq_false', Bool.and_eq_true, Bool.and_eq_false_iff, decide_eq_true_eq, decide_eq_false_iff_not, beq_iff_eq, beq_eq_false_iff_ne, bne_iff_ne, bne_eq_false_iff_eq, ne_eq, not_and, Int.toNat_natCast] at *); (try simp only [Row.cells, Row.wrapped, Row.end_, Cell.kind, Cell.at] at *); (try simp (disch := omega) only [wrapId, toNatAdd, toNatSucc, isAt, reduceCtorEq, or_false, and_true, Bool.and_true, Bool.and_eq_true, Bool.and_eq_false_iff, beq_iff_eq, beq_eq_false_iff_ne, ne_eq, Int.toNat_natCast] at *)) <;> first | omega | assumption | (refine ⟨?_, ?_⟩ <;> assumption)))) (cP h0 nilE))))))))))))))))))) (by kernel_rfl)).to (by ((try simp (disch := omega) only [wrapId, toNatAdd, toNatSucc, goesOn, Row.wrapped] at *); (try simp only [Int.toNat_natCast, beq_iff_eq, beq_eq_false_iff_ne, bne_iff_ne, bne_eq_false_iff_eq, ne_eq, Int.natCast_eq_zero, Int.natCast_inj, Row.cells] at *); first | (simp (disch := omega) [Ty.enc, stopAt, endMark, lineMarks, lineM, lineA, lineW, Row.end_, inA, inW, inM, mk, Cell.kind, Cell.at, Row.cells, wrapId, mP, isAt, toNatPred, toNatAdd, toNatSucc, goesOn, ltF, ltT, Row.wrapped, Ty.slD, *]; done) | (subst_vars; simp (disch := omega) [Ty.enc, stopAt, endMark, lineMarks, lineM, lineA, lineW, Row.end_, inA, inW, inM, mk, Cell.kind, Cell.at, Row.cells, wrapId, mP, isAt, toNatPred, toNatAdd, toNatSucc, goesOn, ltF, ltT, Row.wrapped, Ty.slD, *]; done)))
set_option maxHeartbeats 4000000 in
theorem pkA1 : pkA1_T := by
  intro l p b i hl hi hm
  have h0 : (decide ((↑i : Int) < (↑(List.length l) : Int))) = true := by (((try simp only [eq_self, and_true, true_and, Bool.and_true, Bool.true_and, Bool.not_eq_true', Bool.not_eq_false', Bool.and_eq_true, Bool.and_eq_false_iff, decide_eq_true_eq, decide_eq_false_iff_not, beq_iff_eq, beq_eq_false_iff_ne, bne_iff_ne, bne_eq_false_iff_eq, ne_eq, not_and, Int.toNat_natCast] at *); (try simp only [Row.cells, Row.wrapped, Row.end_, Cell.kind, Cell.at] at *); (try simp (disch := omega) only [wrapId, toNatAdd, toNatSucc, isAt, reduceCtorEq, or_false, and_true, Bool.and_true, Bool.and_eq_true, Bool.and_eq_false_iff, beq_iff_eq, beq_eq_false_iff_ne, ne_eq, Int.toNat_natCast] at *)) <;> first | omega | assumption | (refine ⟨?_, ?_⟩ <;> assumption))
  rcases Bool.eq_false_or_eq_true (decide ((mR (Ty.nth markT l (Int.toNat (↑i : Int)))) < (ptR p))) with h1 | h1
  · exact (pC (st' := { s := [((nat_lit 2), (V.d (D.fn (nat_lit 38)))), ((nat_lit 4), (V.obj (nat_lit 0) (nat_lit 0))), ((nat_lit 6), (V.obj (nat_lit 1) (nat_lit 0))), ((nat_lit 7), (V.obj (nat_lit 2) (nat_lit 0))), ((nat_lit 13), (V.d (D.sl (List.flatMap (Ty.enc markT) l) (List.length l)))), ((nat_lit 14), (V.d (D.int IntKind.i64 (↑(List.length l) : Int)))), ((nat_lit 15), (V.d (D.int IntKind.i64 (IntKind.wrap IntKind.i64 ((↑i : Int) + (1 : Int))))))], h := [(Ob.cells [(V.d (D.int IntKind.i64 (ptR p))), (V.d (D.int IntKind.i64 (ptC p)))]), (Ob.cells [(V.d (D.int IntKind.i64 (0 : Int))), (V.d (D.int IntKind.i64 (0 : Int))), (V.d (D.int IntKind.i64 (0 : Int))), (V.d (D.int IntKind.i64 (0 : Int)))]), (Ob.cells [(V.d (D.int IntKind.i64 (mR b))), (V.d (D.int IntKind.i64 (mC b))), (V.d (D.int IntKind.i64 (mK b))), (V.d (D.int IntKind.i64 (mA b)))])], og := [] }) 12 [(1, bt), (2, .v (V.d (D.ref (List.flatMap (Ty.enc markT) l) ((Int.toNat (↑i : Int)) * (4 : Nat))))), (3, .v (V.d (D.agg [(D.int IntKind.i64 (mR (Ty.nth markT l (Int.toNat (↑i : Int))))), (D.int IntKind.i64 (mC (Ty.nth markT l (Int.toNat (↑i : Int))))), (D.int IntKind.i64 (mK (Ty.nth markT l (Int.toNat (↑i : Int))))), (D.int IntKind.i64 (mA (Ty.nth markT l (Int.toNat (↑i : Int)))))]))), (10, bt), (11, bt), (12, bt), (13, bt), (14, bt), (15, bt), (16, bt), (17, bt), (18, bt)] (cP h1 (cP h1 (cP h1 (cP h1 (cP h1 (cP h1 (cP h1 (cP h1 (cP h1 (cP (@loadMarkF (l) ([(Ob.cells [(V.d (D.int IntKind.i64 (ptR p))), (V.d (D.int IntKind.i64 (ptC p)))]), (Ob.cells [(V.d (D.int IntKind.i64 (0 : Int))), (V.d (D.int IntKind.i64 (0 : Int))), (V.d (D.int IntKind.i64 (0 : Int))), (V.d (D.int IntKind.i64 (0 : Int)))]), (Ob.cells [(V.d (D.int IntKind.i64 (mR b))), (V.d (D.int IntKind.i64 (mC b))), (V.d (D.int IntKind.i64 (mK b))), (V.d (D.int IntKind.i64 (mA b)))])]) (Int.toNat (↑i : Int)) (by (((try simp only [eq_self, and_true, true_and, Bool.and_true, Bool.true_and, Bool.not_eq_true', Bool.not_eq_false', Bool.and_eq_true, Bool.and_eq_false_iff, decide_eq_true_eq, decide_eq_false_iff_not, beq_iff_eq, beq_eq_false_iff_ne, bne_iff_ne, bne_eq_false_iff_eq, ne_eq, not_and, Int.toNat_natCast] at *); (try simp only [Row.cells, Row.wrapped, Row.end_, Cell.kind, Cell.at] at *); (try simp (disch := omega) only [wrapId, toNatAdd, toNatSucc, isAt, reduceCtorEq, or_false, and_true, Bool.and_true, Bool.and_eq_true, Bool.and_eq_false_iff, beq_iff_eq, beq_eq_false_iff_ne, ne_eq, Int.toNat_natCast] at *)) <;> first | omega | assumption | (refine ⟨?_, ?_⟩ <;> assumption)))) (cP (@iaddrMark (l) ((↑i : Int)) (by (((try simp only [eq_self, and_true, true_and, Bool.and_true, Bool.true_and, Bool.not_eq_true', Bool.not_eq_false', Bool.and_eq_true, Bool.and_eq_false_iff, decide_eq_true_eq, decide_eq_false_iff_not, beq_iff_eq, beq_eq_false_iff_ne, bne_iff_ne, bne_eq_false_iff_eq, ne_eq, not_and, Int.toNat_natCast] at *); (try simp only [Row.cells, Row.wrapped, Row.end_, Cell.kind, Cell.at] at *); (try simp (disch := omega) only [wrapId, toNatAdd, toNatSucc, isAt, reduceCtorEq, or_false, and_true, Bool.and_true, Bool.and_eq_true, Bool.and_eq_false_iff, beq_iff_eq, beq_eq_false_iff_ne, ne_eq, Int.toNat_natCast] at *)) <;> first | omega | assumption | (refine ⟨?_, ?_⟩ <;> assumption))) (by (((try simp only [eq_self, and_true, true_and, Bool.and_true, Bool.true_and, Bool.not_eq_true', Bool.not_eq_false', Bool.and_eq_true, Bool.and_eq_false_iff, decide_eq_true_eq, decide_eq_false_iff_not, beq_iff_eq, beq_eq_false_iff_ne, bne_iff_ne, bne_eq_false_iff_eq, ne_eq, not_and, Int.toNat_natCast] at *); (try simp only [Row.cells, Row.wrapped, Row.end_, Cell.kind, Cell.at] at *); (try simp (disch := omega) only [wrapId, toNatAdd, toNatSucc, isAt, reduceCtorEq, or_false, and_true, Bool.and_true, Bool.and_eq_true, Bool.and_eq_false_iff, beq_iff_eq, beq_eq_false_iff_ne, ne_eq, Int.toNat_natCast] at *)) <;> first | omega | assumption | (refine ⟨?_, ?_⟩ <;> assumption)))) (cP h0 nilE)))))))))))) (by kernel_rfl)).to (by ((try simp (disch := omega) only [wrapId, toNatAdd, toNatSucc, goesOn, Row.wrapped] at *); (try simp only [Int.toNat_natCast, beq_iff_eq, beq_eq_false_iff_ne, bne_iff_ne, bne_eq_false_iff_eq, ne_eq, Int.natCast_eq_zero, Int.natCast_inj, Row.cells] at *); first | (simp (disch := omega) [Ty.enc, stopAt, endMark, lineMarks, lineM, lineA, lineW, Row.end_, inA, inW, inM, mk, Cell.kind, Cell.at, Row.cells, wrapId, mP, isAt, toNatPred, toNatAdd, toNatSucc, goesOn, ltF, ltT, Row.wrapped, Ty.slD, *]; done) | (subst_vars; simp (disch := omega) [Ty.enc, stopAt, endMark, lineMarks, lineM, lineA, lineW, Row.end_, inA, inW, inM, mk, Cell.kind, Cell.at, Row.cells, wrapId, mP, isAt, toNatPred, toNatAdd, toNatSucc, goesOn, ltF, ltT, Row.wrapped, Ty.slD, *]; done)))
  · have h2 : ((mR (Ty.nth markT l (Int.toNat (↑i : Int)))) == (ptR p)) = true := by (((try simp only [eq_self, and_true, true_and, Bool.and_true, Bool.true_and, Bool.not_eq_true', Bool.not_eq_false', Bool.and_eq_true, Bool.and_eq_false_iff, decide_eq_true_eq, decide_eq_false_iff_not, beq_iff_eq, beq_eq_false_iff_ne, bne_iff_ne, bne_eq_false_iff_eq, ne_eq, not_and, Int.toNat_natCast] at *); (try simp only [Row.cells, Row.wrapped, Row.end_, Cell.kind, Cell.at] at *); (try simp (disch := omega) only [wrapId, toNatAdd, toNatSucc, isAt, reduceCtorEq, or_false, and_true, Bool.and_true, Bool.and_eq_true, Bool.and_eq_false_iff, beq_iff_eq, beq_eq_false_iff_ne, ne_eq, Int.toNat_natCast] at *)) <;> first | omega | assumption | (refine ⟨?_, ?_⟩ <;> assumption))
    have h3 : (!(decide ((mC (Ty.nth markT l (Int.toNat (↑i : Int)))) < (ptC p)))) = false := by (((try simp only [eq_self, and_true, true_and, Bool.and_true, Bool.true_and, Bool.not_eq_true', Bool.not_eq_false', Bool.and_eq_true, Bool.and_eq_false_iff, decide_eq_true_eq, decide_eq_false_iff_not, beq_iff_eq, beq_eq_false_iff_ne, bne_iff_ne, bne_eq_false_iff_eq, ne_eq, not_and, Int.toNat_natCast] at *); (try simp only [Row.cells, Row.wrapped, Row.end_, Cell.kind, Cell.at] at *); (try simp (disch := omega) only [wrapId, toNatAdd, toNatSucc, isAt, reduceCtorEq, or_false, and_true, Bool.and_true, Bool.and_eq_true, Bool.and_eq_false_iff, beq_iff_eq, beq_eq_false_iff_ne, ne_eq, Int.toNat_natCast] at *)) <;> first | omega | assumption | (refine ⟨?_, ?_⟩ <;> assumption))
    exact (pC (st' := { s := [((nat_lit 2), (V.d (D.fn (nat_lit 38)))), ((nat_lit 4), (V.obj (nat_lit 0) (nat_lit 0))), ((nat_lit 6), (V.obj (nat_lit 1) (nat_lit 0))), ((nat_lit 7), (V.obj (nat_lit 2) (nat_lit 0))), ((nat_lit 13), (V.d (D.sl (List.flatMap (Ty.enc markT) l) (List.length l)))), ((nat_lit 14), (V.d (D.int IntKind.i64 (↑(List.length l) : Int)))), ((nat_lit 15), (V.d (D.int IntKind.i64 (IntKind.wrap IntKind.i64 ((↑i : Int) + (1 : Int))))))], h := [(Ob.cells [(V.d (D.int IntKind.i64 (ptR p))), (V.d (D.int IntKind.i64 (ptC p)))]), (Ob.cells [(V.d (D.int IntKind.i64 (0 : Int))), (V.d (D.int IntKind.i64 (0 : Int))), (V.d (D.int IntKind.i64 (0 : Int))), (V.d (D.int IntKind.i64 (0 : Int)))]), (Ob.cells [(V.d (D.int IntKind.i64 (mR b))), (V.d (D.int IntKind.i64 (mC b))), (V.d (D.int IntKind.i64 (mK b))), (V.d (D.int IntKind.i64 (mA b)))])], og := [] }) 12 [(1, bt), (2, .v (V.d (D.ref (List.flatMap (Ty.enc markT) l) ((Int.toNat (↑i : Int)) * (4 : Nat))))), (3, .v (V.d (D.agg [(D.int IntKind.i64 (mR (Ty.nth markT l (Int.toNat (↑i : Int))))), (D.int IntKind.i64 (mC (Ty.nth markT l (Int.toNat (↑i : Int))))), (D.int IntKind.i64 (mK (Ty.nth markT l (Int.toNat (↑i : Int))))), (D.int IntKind.i64 (mA (Ty.nth markT l (Int.toNat (↑i : Int)))))]))), (10, bf), (11, bf), (12, bf), (14, bf), (15, bf), (17, bf), (19, bf), (20, bt), (21, bt), (22, bt), (24, bt), (25, bt), (27, bt), (29, bf), (30, bt), (31, bf), (32, bf)] (cP h3 (cP h1 (cP h2 (cP h1 (cP h2 (cP h2 (cP h2 (cP h2 (cP h2 (cP h2 (cP h1 (cP h1 (cP h1 (cP h1 (cP h1 (cP h1 (cP h1 (cP (@loadMarkF (l) ([(Ob.cells [(V.d (D.int IntKind.i64 (ptR p))), (V.d (D.int IntKind.i64 (ptC p)))]), (Ob.cells [(V.d (D.int IntKind.i64 (0 : Int))), (V.d (D.int IntKind.i64 (0 : Int))), (V.d (D.int IntKind.i64 (0 : Int))), (V.d (D.int IntKind.i64 (0 : Int)))]), (Ob.cells [(V.d (D.int IntKind.i64 (mR b))), (V.d (D.int IntKind.i64 (mC b))), (V.d (D.int IntKind.i64 (mK b))), (V.d (D.int IntKind.i64 (mA b)))])]) (Int.toNat (↑i : Int)) (by (((try simp only [eq_self, and_true, true_and, Bool.and_true, Bool.true_and, Bool.not_eq_true', Bool.not_eq_false', Bool.and_eq_true, Bool.and_eq_false_iff, decide_eq_true_eq, decide_eq_false_iff_not, beq_iff_eq, beq_eq_false_iff_ne, bne_iff_ne, bne_eq_false_iff_eq, ne_eq, not_and, Int.toNat_natCast] at *); (try simp only [Row.cells, Row.wrapped, Row.end_, Cell.kind, Cell.at] at *); (try simp (disch := omega) only [wrapId, toNatAdd, toNatSucc, isAt, reduceCtorEq, or_false, and_true, Bool.and_true, Bool.and_eq_true, Bool.and_eq_false_iff, beq_iff_eq, beq_eq_false_iff_ne, ne_eq, Int.toNat_natCast] at *)) <;> first | omega | assumption | (refine ⟨?_, ?_⟩ <;> assumption)))) (cP (@iaddrMark (l) ((↑i : Int)) (by (((try simp only [eq_self, and_true, true_and, Bool.and_true, Bool.true_and, Bool.not_eq_true', Bool.not_eq_false', Bool.and_eq_true, Bool.and_eq_false_iff, decide_eq_true_eq, decide_eq_false_iff_not, beq_iff_eq, beq_eq_false_iff_ne, bne_iff_ne, bne_eq_false_iff_eq, ne_eq, not_and, Int.toNat_natCast] at *); (try simp only [Row.cells, Row.wrapped, Row.end_, Cell.kind, Cell.at] at *); (try simp (disch := omega) only [wrapId, toNatAdd, toNatSucc, isAt, reduceCtorEq, or_false, and_true, Bool.and_true, Bool.and_eq_true, Bool.and_eq_false_iff, beq_iff_eq, beq_eq_false_iff_ne, ne_eq, Int.toNat_natCast] at *)) <;> first | omega | assumption | (refine ⟨?_, ?_⟩ <;> assumption))) (by (((try simp only [eq_self, and_true, true_and, Bool.and_true, Bool.true_and, Bool.not_eq_true', Bool.not_eq_false', Bool.and_eq_true, Bool.and_eq_false_iff, decide_eq_true_eq, decide_eq_false_iff_not, beq_iff_eq, beq_eq_false_iff_ne, bne_iff_ne, bne_eq_false_iff_eq, ne_eq, not_and, Int.toNat_natCast] at *); (try simp only [Row.cells, Row.wrapped, Row.end_, Cell.kind, Cell.at] at *); (try simp (disch := omega) only [wrapId, toNatAdd, toNatSucc, isAt, reduceCtorEq, or_false, and_true, Bool.and_true, Bool.and_eq_true, Bool.and_eq_false_iff, beq_iff_eq, beq_eq_false_iff_ne, ne_eq, Int.toNat_natCast] at *)) <;> first | omega | assumption | (refine ⟨?_, ?_⟩ <;> assumption)))) (cP h0 nilE)))))))))))))))))))) (by kernel_rfl)).to (by ((try simp (disch := omega) only [wrapId, toNatAdd, toNatSucc, goesOn, Row.wrapped] at *); (try simp only [Int.toNat_natCast, beq_iff_eq, beq_eq_false_iff_ne, bne_iff_ne, bne_eq_false_iff_eq, ne_eq, Int.natCast_eq_zero, Int.natCast_inj, Row.cells] at *); first | (simp (disch := omega) [Ty.enc, stopAt, endMark, lineMarks, lineM, lineA, lineW, Row.end_, inA, inW, inM, mk, Cell.kind, Cell.at, Row.cells, wrapId, mP, isAt, toNatPred, toNatAdd, toNatSucc, goesOn, ltF, ltT, Row.wrapped, Ty.slD, *]; done) | (subst_vars; simp (disch := omega) [Ty.enc, stopAt, endMark, lineMarks, lineM, lineA, lineW, Row.end_, inA, inW, inM, mk, Cell.kind, Cell.at, Row.cells, wrapId, mP, isAt, toNatPred, toNatAdd, toNatSucc, goesOn, ltF, ltT, Row.wrapped, Ty.slD, *]; done)))
set_option maxHeartbeats 4000000 in
theorem pkA2 : pkA2_T := by
  intro l p b i hl hi hm
  have h0 : (decide ((↑i : Int) < (↑(List.length l) : Int))) = true := by (((try simp only [eq_self, and_true, true_and, Bool.and_true, Bool.true_and, Bool.not_eq_true', Bool.not_eq_false', Bool.and_eq_true, Bool.and_eq_false_iff, decide_eq_true_eq, decide_eq_false_iff_not, beq_iff_eq, beq_eq_false_iff_ne, bne_iff_ne, bne_eq_false_iff_eq, ne_eq, not_and, Int.toNat_natCast] at *); (try simp only [Row.cells, Row.wrapped, Row.end_, Cell.kind, Cell.at] at *); (try simp (disch := omega) only [wrapId, toNatAdd, toNatSucc, isAt, reduceCtorEq, or_false, and_true, Bool.and_true, Bool.and_eq_true, Bool.and_eq_false_iff, beq_iff_eq, beq_eq_false_iff_ne, ne_eq, Int.toNat_natCast] at *)) <;> first | omega | assumption | (refine ⟨?_, ?_⟩ <;> assumption))
  have h1 : (decide ((mR (Ty.nth markT l (Int.toNat (↑i : Int)))) < (ptR p))) = false := by (((try simp only [eq_self, and_true, true_and, Bool.and_true, Bool.true_and, Bool.not_eq_true', Bool.not_eq_false', Bool.and_eq_true, Bool.and_eq_false_iff, decide_eq_true_eq, decide_eq_false_iff_not, beq_iff_eq, beq_eq_false_iff_ne, bne_iff_ne, bne_eq_false_iff_eq, ne_eq, not_and, Int.toNat_natCast] at *); (try simp only [Row.cells, Row.wrapped, Row.end_, Cell.kind, Cell.at] at *); (try simp (disch := omega) only [wrapId, toNatAdd, toNatSucc, isAt, reduceCtorEq, or_false, and_true, Bool.and_true, Bool.and_eq_true, Bool.and_eq_false_iff, beq_iff_eq, beq_eq_false_iff_ne, ne_eq, Int.toNat_natCast] at *)) <;> first | omega | assumption | (refine ⟨?_, ?_⟩ <;> assumption))
  rcases Bool.eq_false_or_eq_true ((mR (Ty.nth markT l (Int.toNat (↑i : Int)))) == (ptR p)) with h2 | h2
  · have h3 : (!(decide ((mC (Ty.nth markT l (Int.toNat (↑i : Int)))) < (ptC p)))) = true := by (((try simp only [eq_self, and_true, true_and, Bool.and_true, Bool.true_and, Bool.not_eq_true', Bool.not_eq_false', Bool.and_eq_true, Bool.and_eq_false_iff, decide_eq_true_eq, decide_eq_false_iff_not, beq_iff_eq, beq_eq_false_iff_ne, bne_iff_ne, bne_eq_false_iff_eq, ne_eq, not_and, Int.toNat_natCast] at *); (try simp only [Row.cells, Row.wrapped, Row.end_, Cell.kind, Cell.at] at *); (try simp (disch := omega) only [wrapId, toNatAdd, toNatSucc, isAt, reduceCtorEq, or_false, and_true, Bool.and_true, Bool.and_eq_true, Bool.and_eq_false_iff, beq_iff_eq, beq_eq_false_iff_ne, ne_eq, Int.toNat_natCast] at *)) <;> first | omega | assumption | (refine ⟨?_, ?_⟩ <;> assumption))
    exact (pC (st' := { s := [((nat_lit 2), (V.d (D.fn (nat_lit 38)))), ((nat_lit 4), (V.obj (nat_lit 0) (nat_lit 0))), ((nat_lit 6), (V.obj (nat_lit 1) (nat_lit 0))), ((nat_lit 7), (V.obj (nat_lit 2) (nat_lit 0))), ((nat_lit 13), (V.d (D.sl (List.flatMap (Ty.enc markT) l) (List.length l)))), ((nat_lit 14), (V.d (D.int IntKind.i64 (↑(List.length l) : Int)))), ((nat_lit 15), (V.d (D.int IntKind.i64 (IntKind.wrap IntKind.i64 ((↑i : Int) + (1 : Int))))))], h := [(Ob.cells [(V.d (D.int IntKind.i64 (ptR p))), (V.d (D.int IntKind.i64 (ptC p)))]), (Ob.cells [(V.d (D.int IntKind.i64 (0 : Int))), (V.d (D.int IntKind.i64 (0 : Int))), (V.d (D.int IntKind.i64 (0 : Int))), (V.d (D.int IntKind.i64 (0 : Int)))]), (Ob.cells [(V.d (D.int IntKind.i64 (mR (Ty.nth markT l (Int.toNat (↑i : Int)))))), (V.d (D.int IntKind.i64 (mC (Ty.nth markT l (Int.toNat (↑i : Int)))))), (V.d (D.int IntKind.i64 (mK (Ty.nth markT l (Int.toNat (↑i : Int)))))), (V.d (D.int IntKind.i64 (mA (Ty.nth markT l (Int.toNat (↑i : Int))))))])], og := [] }) 12 [(1, bt), (2, .v (V.d (D.ref (List.flatMap (Ty.enc markT) l) ((Int.toNat (↑i : Int)) * (4 : Nat))))), (3, .v (V.d (D.agg [(D.int IntKind.i64 (mR (Ty.nth markT l (Int.toNat (↑i : Int))))), (D.int IntKind.i64 (mC (Ty.nth markT l (Int.toNat (↑i : Int))))), (D.int IntKind.i64 (mK (Ty.nth markT l (Int.toNat (↑i : Int))))), (D.int IntKind.i64 (mA (Ty.nth markT l (Int.toNat (↑i : Int)))))]))), (10, bf), (11, bf), (12, bf), (14, bf), (15, bf), (17, bf), (19, bf), (20, bt), (21, bt), (22, bt), (24, bt), (25, bt), (27, bt), (29, bf), (30, bt), (31, bf), (32, bt)] (cP h3 (cP h1 (cP h2 (cP h1 (cP h2 (cP h2 (cP h2 (cP h2 (cP h2 (cP h2 (cP h1 (cP h1 (cP h1 (cP h1 (cP h1 (cP h1 (cP h1 (cP (@loadMarkF (l) ([(Ob.cells [(V.d (D.int IntKind.i64 (ptR p))), (V.d (D.int IntKind.i64 (ptC p)))]), (Ob.cells [(V.d (D.int IntKind.i64 (0 : Int))), (V.d (D.int IntKind.i64 (0 : Int))), (V.d (D.int IntKind.i64 (0 : Int))), (V.d (D.int IntKind.i64 (0 : Int)))]), (Ob.cells [(V.d (D.int IntKind.i64 (mR b))), (V.d (D.int IntKind.i64 (mC b))), (V.d (D.int IntKind.i64 (mK b))), (V.d (D.int IntKind.i64 (mA b)))])]) (Int.toNat (↑i : Int)) (by (((try simp only [eq_self, and_true, true_and, Bool.and_true, Bool.true_and, Bool.not_eq_true', Bool.not_eq_false', Bool.and_eq_true, Bool.and_eq_false_iff, decide_eq_true_eq, decide_eq_false_iff_not, beq_iff_eq, beq_eq_false_iff_ne, bne_iff_ne, bne_eq_false_iff_eq, ne_eq, not_and, Int.toNat_natCast] at *); (try simp only [Row.cells, Row.wrapped, Row.end_, Cell.kind, Cell.at] at *); (try simp (disch := omega) only [wrapId, toNatAdd, toNatSucc, isAt, reduceCtorEq, or_false, and_true, Bool.and_true, Bool.and_eq_true, Bool.and_eq_false_iff, beq_iff_eq, beq_eq_false_iff_ne, ne_eq, Int.toNat_natCast] at *)) <;> first | omega | assumption | (refine ⟨?_, ?_⟩ <;> assumption)))) (cP (@iaddrMark (l) ((↑i : Int)) (by (((try simp only [eq_self, and_true, true_and, Bool.and_true, Bool.true_and, Bool.not_eq_true', Bool.not_eq_false', Bool.and_eq_true, Bool.and_eq_false_iff, decide_eq_true_eq, decide_eq_false_iff_not, beq_iff_eq, beq_eq_false_iff_ne, bne_iff_ne, bne_eq_false_iff_eq, ne_eq, not_and, Int.toNat_natCast] at *); (try simp only [Row.cells, Row.wrapped, Row.end_, Cell.kind, Cell.at] at *); (try simp (disch := omega) only [wrapId, toNatAdd, toNatSucc, isAt, reduceCtorEq, or_false, and_true, Bool.and_true, Bool.and_eq_true, Bool.and_eq_false_iff, beq_iff_eq, beq_eq_false_iff_ne, ne_eq, Int.toNat_natCast] at *)) <;> first | omega | assumption | (refine ⟨?_, ?_⟩ <;> assumption))) (by (((try simp only [eq_self, and_true, true_and, Bool.and_true, Bool.true_and, Bool.not_eq_true', Bool.not_eq_false', Bool.and_eq_true, Bool.and_eq_false_iff, decide_eq_true_eq, decide_eq_false_iff_not, beq_iff_eq, beq_eq_false_iff_ne, bne_iff_ne, bne_eq_false_iff_eq, ne_eq, not_and, Int.toNat_natCast] at *); (try simp only [Row.cells, Row.wrapped, Row.end_, Cell.kind, Cell.at] at *); (try simp (disch := omega) only [wrapId, toNatAdd, toNatSucc, isAt, reduceCtorEq, or_false, and_true, Bool.and_true, Bool.and_eq_true, Bool.and_eq_false_iff, beq_iff_eq, beq_eq_false_iff_ne, ne_eq, Int.toNat_natCast] at *)) <;> first | omega | assumption | (refine ⟨?_, ?_⟩ <;> assumption)))) (cP h0 nilE)))))))))))))))))))) (by kernel_rfl)).to (by ((try simp (disch := omega) only [wrapId, toNatAdd, toNatSucc, goesOn, Row.wrapped] at *); (try simp only [Int.toNat_natCast, beq_iff_eq, beq_eq_false_iff_ne, bne_iff_ne, bne_eq_false_iff_eq, ne_eq, Int.natCast_eq_zero, Int.natCast_inj, Row.cells] at *); first | (simp (disch := omega) [Ty.enc, stopAt, endMark, lineMarks, lineM, lineA, lineW, Row.end_, inA, inW, inM, mk, Cell.kind, Cell.at, Row.cells, wrapId, mP, isAt, toNatPred, toNatAdd, toNatSucc, goesOn, ltF, ltT, Row.wrapped, Ty.slD, *]; done) | (subst_vars; simp (disch := omega) [Ty.enc, stopAt, endMark, lineMarks, lineM, lineA, lineW, Row.end_, inA, inW, inM, mk, Cell.kind, Cell.at, Row.cells, wrapId, mP, isAt, toNatPred, toNatAdd, toNatSucc, goesOn, ltF, ltT, Row.wrapped, Ty.slD, *]; done)))
  · exact (pC (st' := { s := [((nat_lit 2), (V.d (D.fn (nat_lit 38)))), ((nat_lit 4), (V.obj (nat_lit 0) (nat_lit 0))), ((nat_lit 6), (V.obj (nat_lit 1) (nat_lit 0))), ((nat_lit 7), (V.obj (nat_lit 2) (nat_lit 0))), ((nat_lit 13), (V.d (D.sl (List.flatMap (Ty.enc markT) l) (List.length l)))), ((nat_lit 14), (V.d (D.int IntKind.i64 (↑(List.length l) : Int)))), ((nat_lit 15), (V.d (D.int IntKind.i64 (IntKind.wrap IntKind.i64 ((↑i : Int) + (1 : Int))))))], h := [(Ob.cells [(V.d (D.int IntKind.i64 (ptR p))), (V.d (D.int IntKind.i64 (ptC p)))]), (Ob.cells [(V.d (D.int IntKind.i64 (0 : Int))), (V.d (D.int IntKind.i64 (0 : Int))), (V.d (D.int IntKind.i64 (0 : Int))), (V.d (D.int IntKind.i64 (0 : Int)))]), (Ob.cells [(V.d (D.int IntKind.i64 (mR (Ty.nth markT l (Int.toNat (↑i : Int)))))), (V.d (D.int IntKind.i64 (mC (Ty.nth markT l (Int.toNat (↑i : Int)))))), (V.d (D.int IntKind.i64 (mK (Ty.nth markT l (Int.toNat (↑i : Int)))))), (V.d (D.int IntKind.i64 (mA (Ty.nth markT l (Int.toNat (↑i : Int))))))])], og := [] }) 12 [(1, bt), (2, .v (V.d (D.ref (List.flatMap (Ty.enc markT) l) ((Int.toNat (↑i : Int)) * (4 : Nat))))), (3, .v (V.d (D.agg [(D.int IntKind.i64 (mR (Ty.nth markT l (Int.toNat (↑i : Int))))), (D.int IntKind.i64 (mC (Ty.nth markT l (Int.toNat (↑i : Int))))), (D.int IntKind.i64 (mK (Ty.nth markT l (Int.toNat (↑i : Int))))), (D.int IntKind.i64 (mA (Ty.nth markT l (Int.toNat (↑i : Int)))))]))), (10, bf), (11, bf), (12, bf), (14, bf), (15, bf), (17, bf), (19, bf), (20, bf), (21, bf), (22, bf), (23, bf), (24, bf), (25, bf), (26, bf), (27, bf), (28, bf)] (cP h1 (cP h2 (cP h1 (cP h2 (cP h2 (cP h2 (cP h2 (cP h2 (cP h2 (cP h1 (cP h1 (cP h1 (cP h1 (cP h1 (cP h1 (cP h1 (cP (@loadMarkF (l) ([(Ob.cells [(V.d (D.int IntKind.i64 (ptR p))), (V.d (D.int IntKind.i64 (ptC p)))]), (Ob.cells [(V.d (D.int IntKind.i64 (0 : Int))), (V.d (D.int IntKind.i64 (0 : Int))), (V.d (D.int IntKind.i64 (0 : Int))), (V.d (D.int IntKind.i64 (0 : Int)))]), (Ob.cells [(V.d (D.int IntKind.i64 (mR b))), (V.d (D.int IntKind.i64 (mC b))), (V.d (D.int IntKind.i64 (mK b))), (V.d (D.int IntKind.i64 (mA b)))])]) (Int.toNat (↑i : Int)) (by (((try simp only [eq_self, and_true, true_and, Bool.and_true, Bool.true_and, Bool.not_eq_true', Bool.not_eq_false', Bool.and_eq_true, Bool.and_eq_false_iff, decide_eq_true_eq, decide_eq_false_iff_not, beq_iff_eq, beq_eq_false_iff_ne, bne_iff_ne, bne_eq_false_iff_eq, ne_eq, not_and, Int.toNat_natCast] at *); (try simp only [Row.cells, Row.wrapped, Row.end_, Cell.kind, Cell.at] at *); (try simp (disch := omega) only [wrapId, toNatAdd, toNatSucc, isAt, reduceCtorEq, or_false, and_true, Bool.and_true, Bool.and_eq_true, Bool.and_eq_false_iff, beq_iff_eq, beq_eq_false_iff_ne, ne_eq, Int.toNat_natCast] at *)) <;> first | omega | assumption | (refine ⟨?_, ?_⟩ <;> assumption)))) (cP (@iaddrMark (l) ((↑i : Int)) (by (((try simp only [eq_self, and_true, true_and, Bool.and_true, Bool.true_and, Bool.not_eq_true', Bool.not_eq_false', Bool.and_eq_true, Bool.and_eq_false_iff, decide_eq_true_eq, decide_eq_false_iff_not, beq_iff_eq, beq_eq_false_iff_ne, bne_iff_ne, bne_eq_false_iff_eq, ne_eq, not_and, Int.toNat_natCast] at *); (try simp only [Row.cells, Row.wrapped, Row.end_, Cell.kind, Cell.at] at *); (try simp (disch := omega) only [wrapId, toNatAdd, toNatSucc, isAt, reduceCtorEq, or_false, and_true, Bool.and_true, Bool.and_eq_true, Bool.and_eq_false_iff, beq_iff_eq, beq_eq_false_iff_ne, ne_eq, Int.toNat_natCast] at *)) <;> first | omega | assumption | (refine ⟨?_, ?_⟩ <;> assumption))) (by (((try simp only [eq_self, and_true, true_and, Bool.and_true, Bool.true_and, Bool.not_eq_true', Bool.not_eq_false', Bool.and_eq_true, Bool.and_eq_false_iff, decide_eq_true_eq, decide_eq_false_iff_not, beq_iff_eq, beq_eq_false_iff_ne, bne_iff_ne, bne_eq_false_iff_eq, ne_eq, not_and, Int.toNat_natCast] at *); (try simp only [Row.cells, Row.wrapped, Row.end_, Cell.kind, Cell.at] at *); (try simp (disch := omega) only [wrapId, toNatAdd, toNatSucc, isAt, reduceCtorEq, or_false, and_true, Bool.and_true, Bool.and_eq_true, Bool.and_eq_false_iff, beq_iff_eq, beq_eq_false_iff_ne, ne_eq, Int.toNat_natCast] at *)) <;> first | omega | assumption | (refine ⟨?_, ?_⟩ <;> assumption)))) (cP h0 nilE))))))))))))))))))) (by kernel_rfl)).to (by ((try simp (disch := omega) only [wrapId, toNatAdd, toNatSucc, goesOn, Row.wrapped] at *); (try simp only [Int.toNat_natCast, beq_iff_eq, beq_eq_false_iff_ne, bne_iff_ne, bne_eq_false_iff_eq, ne_eq, Int.natCast_eq_zero, Int.natCast_inj, Row.cells] at *); first | (simp (disch := omega) [Ty.enc, stopAt, endMark, lineMarks, lineM, lineA, lineW, Row.end_, inA, inW, inM, mk, Cell.kind, Cell.at, Row.cells, wrapId, mP, isAt, toNatPred, toNatAdd, toNatSucc, goesOn, ltF, ltT, Row.wrapped, Ty.slD, *]; done) | (subst_vars; simp (disch := omega) [Ty.enc, stopAt, endMark, lineMarks, lineM, lineA, lineW, Row.end_, inA, inW, inM, mk, Cell.kind, Cell.at, Row.cells, wrapId, mP, isAt, toNatPred, toNatAdd, toNatSucc, goesOn, ltF, ltT, Row.wrapped, Ty.slD, *]; done)))
set_option maxHeartbeats 4000000 in
theorem pkBE : pkBE_T := by
  intro l p b
  have h0 : (decide ((↑(List.length l) : Int) < (↑(List.length l) : Int))) = false := by (((try simp only [eq_self, and_true, true_and, Bool.and_true, Bool.true_and, Bool.not_eq_true', Bool.not_eq_false', Bool.and_eq_true, Bool.and_eq_false_iff, decide_eq_true_eq, decide_eq_false_iff_not, beq_iff_eq, beq_eq_false_iff_ne, bne_iff_ne, bne_eq_false_iff_eq, ne_eq, not_and, Int.toNat_natCast] at *); (try simp only [Row.cells, Row.wrapped, Row.end_, Cell.kind, Cell.at] at *); (try simp (disch := omega) only [wrapId, toNatAdd, toNatSucc, isAt, reduceCtorEq, or_false, and_true, Bool.and_true, Bool.and_eq_true, Bool.and_eq_false_iff, beq_iff_eq, beq_eq_false_iff_ne, ne_eq, Int.toNat_natCast] at *)) <;> first | omega | assumption | (refine ⟨?_, ?_⟩ <;> assumption))
  exact (pR (r := ((Ex.exit (nat_lit 0)), { s := [((nat_lit 2), (V.d (D.fn (nat_lit 36)))), ((nat_lit 4), (V.obj (nat_lit 0) (nat_lit 0))), ((nat_lit 6), (V.obj (nat_lit 1) (nat_lit 0))), ((nat_lit 7), (V.obj (nat_lit 2) (nat_lit 0))), ((nat_lit 13), (V.d (D.sl (List.flatMap (Ty.enc markT) l) (List.length l)))), ((nat_lit 14), (V.d (D.int IntKind.i64 (↑(List.length l) : Int)))), ((nat_lit 15), (V.d (D.int IntKind.i64 (↑(List.length l) : Int)))), ((nat_lit 16), (V.d (D.bool (decide ((↑(List.length l) : Int) < (↑(List.length l) : Int))))))], h := [(Ob.cells [(V.d (D.int IntKind.i64 (ptR p))), (V.d (D.int IntKind.i64 (ptC p)))]), (Ob.cells [(V.d (D.int IntKind.i64 (0 : Int))), (V.d (D.int IntKind.i64 (0 : Int))), (V.d (D.int IntKind.i64 (0 : Int))), (V.d (D.int IntKind.i64 (0 : Int)))]), (Ob.cells [(V.d (D.int IntKind.i64 (mR b))), (V.d (D.int IntKind.i64 (mC b))), (V.d (D.int IntKind.i64 (mK b))), (V.d (D.int IntKind.i64 (mA b)))])], og := [] })) 12 [(1, bf)] (cP h0 nilE) (by kernel_rfl)).to (by ((try simp (disch := omega) only [wrapId, toNatAdd, toNatSucc, goesOn, Row.wrapped] at *); (try simp only [Int.toNat_natCast, beq_iff_eq, beq_eq_false_iff_ne, bne_iff_ne, bne_eq_false_iff_eq, ne_eq, Int.natCast_eq_zero, Int.natCast_inj, Row.cells] at *); first | (simp (disch := omega) [Ty.enc, stopAt, endMark, lineMarks, lineM, lineA, lineW, Row.end_, inA, inW, inM, mk, Cell.kind, Cell.at, Row.cells, wrapId, mP, isAt, toNatPred, toNatAdd, toNatSucc, goesOn, ltF, ltT, Row.wrapped, Ty.slD, *]; done) | (subst_vars; simp (disch := omega) [Ty.enc, stopAt, endMark, lineMarks, lineM, lineA, lineW, Row.end_, inA, inW, inM, mk, Cell.kind, Cell.at, Row.cells, wrapId, mP, isAt, toNatPred, toNatAdd, toNatSucc, goesOn, ltF, ltT, Row.wrapped, Ty.slD, *]; done)))
set_option maxHeartbeats 4000000 in
theorem pkAE : pkAE_T := by
  intro l p b
  have h0 : (decide ((↑(List.length l) : Int) < (↑(List.length l) : Int))) = false := by (((try simp only [eq_self, and_true, true_and, Bool.and_true, Bool.true_and, Bool.not_eq_true', Bool.not_eq_false', Bool.and_eq_true, Bool.and_eq_false_iff, decide_eq_true_eq, decide_eq_false_iff_not, beq_iff_eq, beq_eq_false_iff_ne, bne_iff_ne, bne_eq_false_iff_eq, ne_eq, not_and, Int.toNat_natCast] at *); (try simp only [Row.cells, Row.wrapped, Row.end_, Cell.kind, Cell.at] at *); (try simp (disch := omega) only [wrapId, toNatAdd, toNatSucc, isAt, reduceCtorEq, or_false, and_true, Bool.and_true, Bool.and_eq_true, Bool.and_eq_false_iff, beq_iff_eq, beq_eq_false_iff_ne, ne_eq, Int.toNat_natCast] at *)) <;> first | omega | assumption | (refine ⟨?_, ?_⟩ <;> assumption))
  exact (pR (r := ((Ex.exit (nat_lit 0)), { s := [((nat_lit 2), (V.d (D.fn (nat_lit 38)))), ((nat_lit 4), (V.obj (nat_lit 0) (nat_lit 0))), ((nat_lit 6), (V.obj (nat_lit 1) (nat_lit 0))), ((nat_lit 7), (V.obj (nat_lit 2) (nat_lit 0))), ((nat_lit 13), (V.d (D.sl (List.flatMap (Ty.enc markT) l) (List.length l)))), ((nat_lit 14), (V.d (D.int IntKind.i64 (↑(List.length l) : Int)))), ((nat_lit 15), (V.d (D.int IntKind.i64 (↑(List.length l) : Int)))), ((nat_lit 16), (V.d (D.bool (decide ((↑(List.length l) : Int) < (↑(List.length l) : Int))))))], h := [(Ob.cells [(V.d (D.int IntKind.i64 (ptR p))), (V.d (D.int IntKind.i64 (ptC p)))]), (Ob.cells [(V.d (D.int IntKind.i64 (0 : Int))), (V.d (D.int IntKind.i64 (0 : Int))), (V.d (D.int IntKind.i64 (0 : Int))), (V.d (D.int IntKind.i64 (0 : Int)))]), (Ob.cells [(V.d (D.int IntKind.i64 (mR b))), (V.d (D.int IntKind.i64 (mC b))), (V.d (D.int IntKind.i64 (mK b))), (V.d (D.int IntKind.i64 (mA b)))])], og := [] })) 12 [(1, bf)] (cP h0 nilE) (by kernel_rfl)).to (by ((try simp (disch := omega) only [wrapId, toNatAdd, toNatSucc, goesOn, Row.wrapped] at *); (try simp only [Int.toNat_natCast, beq_iff_eq, beq_eq_false_iff_ne, bne_iff_ne, bne_eq_false_iff_eq, ne_eq, Int.natCast_eq_zero, Int.natCast_inj, Row.cells] at *); first | (simp (disch := omega) [Ty.enc, stopAt, endMark, lineMarks, lineM, lineA, lineW, Row.end_, inA, inW, inM, mk, Cell.kind, Cell.at, Row.cells, wrapId, mP, isAt, toNatPred, toNatAdd, toNatSucc, goesOn, ltF, ltT, Row.wrapped, Ty.slD, *]; done) | (subst_vars; simp (disch := omega) [Ty.enc, stopAt, endMark, lineMarks, lineM, lineA, lineW, Row.end_, inA, inW, inM, mk, Cell.kind, Cell.at, Row.cells, wrapId, mP, isAt, toNatPred, toNatAdd, toNatSucc, goesOn, ltF, ltT, Row.wrapped, Ty.slD, *]; done)))
set_option maxHeartbeats 4000000 in
theorem rc1 : rc1_T := by
  intro l p r c i hl hi hm
  have h0 : (decide ((↑i : Int) < (↑(List.length l) : Int))) = true := by (((try simp only [eq_self, and_true, true_and, Bool.and_true, Bool.true_and, Bool.not_eq_true', Bool.not_eq_false', Bool.and_eq_true, Bool.and_eq_false_iff, decide_eq_true_eq, decide_eq_false_iff_not, beq_iff_eq, beq_eq_false_iff_ne, bne_iff_ne, bne_eq_false_iff_eq, ne_eq, not_and, Int.toNat_natCast] at *); (try simp only [Row.cells, Row.wrapped, Row.end_, Cell.kind, Cell.at] at *); (try simp (disch := omega) only [wrapId, toNatAdd, toNatSucc, isAt, reduceCtorEq, or_false, and_true, Bool.and_true, Bool.and_eq_true, Bool.and_eq_false_iff, beq_iff_eq, beq_eq_false_iff_ne, ne_eq, Int.toNat_natCast] at *)) <;> first | omega | assumption | (refine ⟨?_, ?_⟩ <;> assumption))
  rcases Bool.eq_false_or_eq_true (decide ((ptR p) < (mR (Ty.nth markT l (Int.toNat (↑i : Int)))))) with h1 | h1
  · exact (pC (st' := { s := [((nat_lit 4), (V.obj (nat_lit 0) (nat_lit 0))), ((nat_lit 6), (V.obj (nat_lit 1) (nat_lit 0))), ((nat_lit 8), (V.obj (nat_lit 2) (nat_lit 0))), ((nat_lit 21), (V.d (D.sl (List.flatMap (Ty.enc markT) l) (List.length l)))), ((nat_lit 22), (V.d (D.int IntKind.i64 (↑(List.length l) : Int)))), ((nat_lit 23), (V.d (D.int IntKind.i64 (IntKind.wrap IntKind.i64 ((↑i : Int) + (1 : Int))))))], h := [(Ob.cells [(V.d (D.int IntKind.i64 (ptR p))), (V.d (D.int IntKind.i64 (ptC p)))]), (Ob.cells [(V.d (D.int IntKind.i64 (0 : Int))), (V.d (D.int IntKind.i64 (0 : Int)))]), (Ob.cells [(V.d (D.int IntKind.i64 r)), (V.d (D.int IntKind.i64 c))])], og := [] }) 12 [(1, bt), (2, .v (V.d (D.ref (List.flatMap (Ty.enc markT) l) ((Int.toNat (↑i : Int)) * (4 : Nat))))), (3, .v (V.d (D.agg [(D.int IntKind.i64 (mR (Ty.nth markT l (Int.toNat (↑i : Int))))), (D.int IntKind.i64 (mC (Ty.nth markT l (Int.toNat (↑i : Int))))), (D.int IntKind.i64 (mK (Ty.nth markT l (Int.toNat (↑i : Int))))), (D.int IntKind.i64 (mA (Ty.nth markT l (Int.toNat (↑i : Int)))))]))), (10, bt), (11, bt), (12, bt), (13, bt), (14, bt), (15, bt), (16, bt), (17, bt)] (cP h1 (cP h1 (cP h1 (cP h1 (cP h1 (cP h1 (cP h1 (cP h1 (cP (@loadRMarkF (l) ([(Ob.cells [(V.d (D.int IntKind.i64 (ptR p))), (V.d (D.int IntKind.i64 (ptC p)))]), (Ob.cells [(V.d (D.int IntKind.i64 (0 : Int))), (V.d (D.int IntKind.i64 (0 : Int)))]), (Ob.cells [(V.d (D.int IntKind.i64 r)), (V.d (D.int IntKind.i64 c))])]) (Int.toNat (↑i : Int)) (by (((try simp only [eq_self, and_true, true_and, Bool.and_true, Bool.true_and, Bool.not_eq_true', Bool.not_eq_false', Bool.and_eq_true, Bool.and_eq_false_iff, decide_eq_true_eq, decide_eq_false_iff_not, beq_iff_eq, beq_eq_false_iff_ne, bne_iff_ne, bne_eq_false_iff_eq, ne_eq, not_and, Int.toNat_natCast] at *); (try simp only [Row.cells, Row.wrapped, Row.end_, Cell.kind, Cell.at] at *); (try simp (disch := omega) only [wrapId, toNatAdd, toNatSucc, isAt, reduceCtorEq, or_false, and_true, Bool.and_true, Bool.and_eq_true, Bool.and_eq_false_iff, beq_iff_eq, beq_eq_false_iff_ne, ne_eq, Int.toNat_natCast] at *)) <;> first | omega | assumption | (refine ⟨?_, ?_⟩ <;> assumption)))) (cP (@iaddrRMark (l) ((↑i : Int)) (by (((try simp only [eq_self, and_true, true_and, Bool.and_true, Bool.true_and, Bool.not_eq_true', Bool.not_eq_false', Bool.and_eq_true, Bool.and_eq_false_iff, decide_eq_true_eq, decide_eq_false_iff_not, beq_iff_eq, beq_eq_false_iff_ne, bne_iff_ne, bne_eq_false_iff_eq, ne_eq, not_and, Int.toNat_natCast] at *); (try simp only [Row.cells, Row.wrapped, Row.end_, Cell.kind, Cell.at] at *); (try simp (disch := omega) only [wrapId, toNatAdd, toNatSucc, isAt, reduceCtorEq, or_false, and_true, Bool.and_true, Bool.and_eq_true, Bool.and_eq_false_iff, beq_iff_eq, beq_eq_false_iff_ne, ne_eq, Int.toNat_natCast] at *)) <;> first | omega | assumption | (refine ⟨?_, ?_⟩ <;> assumption))) (by (((try simp only [eq_self, and_true, true_and, Bool.and_true, Bool.true_and, Bool.not_eq_true', Bool.not_eq_false', Bool.and_eq_true, Bool.and_eq_false_iff, decide_eq_true_eq, decide_eq_false_iff_not, beq_iff_eq, beq_eq_false_iff_ne, bne_iff_ne, bne_eq_false_iff_eq, ne_eq, not_and, Int.toNat_natCast] at *); (try simp only [Row.cells, Row.wrapped, Row.end_, Cell.kind, Cell.at] at *); (try simp (disch := omega) only [wrapId, toNatAdd, toNatSucc, isAt, reduceCtorEq, or_false, and_true, Bool.and_true, Bool.and_eq_true, Bool.and_eq_false_iff, beq_iff_eq, beq_eq_false_iff_ne, ne_eq, Int.toNat_natCast] at *)) <;> first | omega | assumption | (refine ⟨?_, ?_⟩ <;> assumption)))) (cP h0 nilE))))))))))) (by kernel_rfl)).to (by ((try simp (disch := omega) only [wrapId, toNatAdd, toNatSucc, goesOn, Row.wrapped] at *); (try simp only [Int.toNat_natCast, beq_iff_eq, beq_eq_false_iff_ne, bne_iff_ne, bne_eq_false_iff_eq, ne_eq, Int.natCast_eq_zero, Int.natCast_inj, Row.cells] at *); first | (simp (disch := omega) [Ty.enc, stopAt, endMark, lineMarks, lineM, lineA, lineW, Row.end_, inA, inW, inM, mk, Cell.kind, Cell.at, Row.cells, wrapId, mP, isAt, toNatPred, toNatAdd, toNatSucc, goesOn, ltF, ltT, Row.wrapped, Ty.slD, *]; done) | (subst_vars; simp (disch := omega) [Ty.enc, stopAt, endMark, lineMarks, lineM, lineA, lineW, Row.end_, inA, inW, inM, mk, Cell.kind, Cell.at, Row.cells, wrapId, mP, isAt, toNatPred, toNatAdd, toNatSucc, goesOn, ltF, ltT, Row.wrapped, Ty.slD, *]; done)))
  · have h2 : ((ptR p) == (mR (Ty.nth markT l (Int.toNat (↑i : Int))))) = true := by (((try simp only [eq_self, and_true, true_and, Bool.and_true, Bool.true_and, Bool.not_eq_true', Bool.not_eq_false', Bool.and_eq_true, Bool.and_eq_false_iff, decide_eq_true_eq, decide_eq_false_iff_not, beq_iff_eq, beq_eq_false_iff_ne, bne_iff_ne, bne_eq_false_iff_eq, ne_eq, not_and, Int.toNat_natCast] at *); (try simp only [Row.cells, Row.wrapped, Row.end_, Cell.kind, Cell.at] at *); (try simp (disch := omega) only [wrapId, toNatAdd, toNatSucc, isAt, reduceCtorEq, or_false, and_true, Bool.and_true, Bool.and_eq_true, Bool.and_eq_false_iff, beq_iff_eq, beq_eq_false_iff_ne, ne_eq, Int.toNat_natCast] at *)) <;> first | omega | assumption | (refine ⟨?_, ?_⟩ <;> assumption))
    have h3 : (!(decide ((ptC p) < (mC (Ty.nth markT l (Int.toNat (↑i : Int))))))) = false := by (((try simp only [eq_self, and_true, true_and, Bool.and_true, Bool.true_and, Bool.not_eq_true', Bool.not_eq_false', Bool.and_eq_true, Bool.and_eq_false_iff, decide_eq_true_eq, decide_eq_false_iff_not, beq_iff_eq, beq_eq_false_iff_ne, bne_iff_ne, bne_eq_false_iff_eq, ne_eq, not_and, Int.toNat_natCast] at *); (try simp only [Row.cells, Row.wrapped, Row.end_, Cell.kind, Cell.at] at *); (try simp (disch := omega) only [wrapId, toNatAdd, toNatSucc, isAt, reduceCtorEq, or_false, and_true, Bool.and_true, Bool.and_eq_true, Bool.and_eq_false_iff, beq_iff_eq, beq_eq_false_iff_ne, ne_eq, Int.toNat_natCast] at *)) <;> first | omega | assumption | (refine ⟨?_, ?_⟩ <;> assumption))
    exact (pC (st' := { s := [((nat_lit 4), (V.obj (nat_lit 0) (nat_lit 0))), ((nat_lit 6), (V.obj (nat_lit 1) (nat_lit 0))), ((nat_lit 8), (V.obj (nat_lit 2) (nat_lit 0))), ((nat_lit 21), (V.d (D.sl (List.flatMap (Ty.enc markT) l) (List.length l)))), ((nat_lit 22), (V.d (D.int IntKind.i64 (↑(List.length l) : Int)))), ((nat_lit 23), (V.d (D.int IntKind.i64 (IntKind.wrap IntKind.i64 ((↑i : Int) + (1 : Int))))))], h := [(Ob.cells [(V.d (D.int IntKind.i64 (ptR p))), (V.d (D.int IntKind.i64 (ptC p)))]), (Ob.cells [(V.d (D.int IntKind.i64 (0 : Int))), (V.d (D.int IntKind.i64 (0 : Int)))]), (Ob.cells [(V.d (D.int IntKind.i64 r)), (V.d (D.int IntKind.i64 c))])], og := [] }) 12 [(1, bt), (2, .v (V.d (D.ref (List.flatMap (Ty.enc markT) l) ((Int.toNat (↑i : Int)) * (4 : Nat))))), (3, .v (V.d (D.agg [(D.int IntKind.i64 (mR (Ty.nth markT l (Int.toNat (↑i : Int))))), (D.int IntKind.i64 (mC (Ty.nth markT l (Int.toNat (↑i : Int))))), (D.int IntKind.i64 (mK (Ty.nth markT l (Int.toNat (↑i : Int))))), (D.int IntKind.i64 (mA (Ty.nth markT l (Int.toNat (↑i : Int)))))]))), (10, bf), (11, bf), (13, bf), (14, bf), (16, bf), (18, bf), (19, bt), (20, bt), (22, bt), (23, bt), (25, bt), (27, bf), (28, bt), (29, bf), (30, bf)] (cP h3 (cP h1 (cP h2 (cP h1 (cP h2 (cP h2 (cP h2 (cP h2 (cP h2 (cP h1 (cP h1 (cP h1 (cP h1 (cP h1 (cP h1 (cP (@loadRMarkF (l) ([(Ob.cells [(V.d (D.int IntKind.i64 (ptR p))), (V.d (D.int IntKind.i64 (ptC p)))]), (Ob.cells [(V.d (D.int IntKind.i64 (0 : Int))), (V.d (D.int IntKind.i64 (0 : Int)))]), (Ob.cells [(V.d (D.int IntKind.i64 r)), (V.d (D.int IntKind.i64 c))])]) (Int.toNat (↑i : Int)) (by (((try simp only [eq_self, and_true, true_and, Bool.and_true, Bool.true_and, Bool.not_eq_true', Bool.not_eq_false', Bool.and_eq_true, Bool.and_eq_false_iff, decide_eq_true_eq, decide_eq_false_iff_not, beq_iff_eq, beq_eq_false_iff_ne, bne_iff_ne, bne_eq_false_iff_eq, ne_eq, not_and, Int.toNat_natCast] at *); (try simp only [Row.cells, Row.wrapped, Row.end_, Cell.kind, Cell.at] at *); (try simp (disch := omega) only [wrapId, toNatAdd, toNatSucc, isAt, reduceCtorEq, or_false, and_true, Bool.and_true, Bool.and_eq_true, Bool.and_eq_false_iff, beq_iff_eq, beq_eq_false_iff_ne, ne_eq, Int.toNat_natCast] at *)) <;> first | omega | assumption | (refine ⟨?_, ?_⟩ <;> assumption)))) (cP (@iaddrRMark (l) ((↑i : Int)) (by (((try simp only [eq_self, and_true, true_and, Bool.and_true, Bool.true_and, Bool.not_eq_true', Bool.not_eq_false', Bool.and_eq_true, Bool.and_eq_false_iff, decide_eq_true_eq, decide_eq_false_iff_not, beq_iff_eq, beq_eq_false_iff_ne, bne_iff_ne, bne_eq_false_iff_eq, ne_eq, not_and, Int.toNat_natCast] at *); (try simp only [Row.cells, Row.wrapped, Row.end_, Cell.kind, Cell.at] at *); (try simp (disch := omega) only [wrapId, toNatAdd, toNatSucc, isAt, reduceCtorEq, or_false, and_true, Bool.and_true, Bool.and_eq_true, Bool.and_eq_false_iff, beq_iff_eq, beq_eq_false_iff_ne, ne_eq, Int.toNat_natCast] at *)) <;> first | omega | assumption | (refine ⟨?_, ?_⟩ <;> assumption))) (by (((try simp only [eq_self, and_true, true_and, Bool.and_true, Bool.true_and, Bool.not_eq_true', Bool.not_eq_false', Bool.and_eq_true, Bool.and_eq_false_iff, decide_eq_true_eq, decide_eq_false_iff_not, beq_iff_eq, beq_eq_false_iff_ne, bne_iff_ne, bne_eq_false_iff_eq, ne_eq, not_and, Int.toNat_natCast] at *); (try simp only [Row.cells, Row.wrapped, Row.end_, Cell.kind, Cell.at] at *); (try simp (disch := omega) only [wrapId, toNatAdd, toNatSucc, isAt, reduceCtorEq, or_false, and_true, Bool.and_true, Bool.and_eq_true, Bool.and_eq_false_iff, beq_iff_eq, beq_eq_false_iff_ne, ne_eq, Int.toNat_natCast] at *)) <;> first | omega | assumption | (refine ⟨?_, ?_⟩ <;> assumption)))) (cP h0 nilE)))))))))))))))))) (by kernel_rfl)).to (by ((try simp (disch := omega) only [wrapId, toNatAdd, toNatSucc, goesOn, Row.wrapped] at *); (try simp only [Int.toNat_natCast, beq_iff_eq, beq_eq_false_iff_ne, bne_iff_ne, bne_eq_false_iff_eq, ne_eq, Int.natCast_eq_zero, Int.natCast_inj, Row.cells] at *); first | (simp (disch := omega) [Ty.enc, stopAt, endMark, lineMarks, lineM, lineA, lineW, Row.end_, inA, inW, inM, mk, Cell.kind, Cell.at, Row.cells, wrapId, mP, isAt, toNatPred, toNatAdd, toNatSucc, goesOn, ltF, ltT, Row.wrapped, Ty.slD, *]; done) | (subst_vars; simp (disch := omega) [Ty.enc, stopAt, endMark, lineMarks, lineM, lineA, lineW, Row.end_, inA, inW, inM, mk, Cell.kind, Cell.at, Row.cells, wrapId, mP, isAt, toNatPred, toNatAdd, toNatSucc, goesOn, ltF, ltT, Row.wrapped, Ty.slD, *]; done)))
set_option maxHeartbeats 4000000 in
theorem rc2 : rc2_T := by
  intro l p r c i hl hi hm
  have h0 : (decide ((↑i : Int) < (↑(List.length l) : Int))) = true := by (((try simp only [eq_self, and_true, true_and, Bool.and_true, Bool.true_and, Bool.not_eq_true', Bool.not_eq_false', Bool.and_eq_true, Bool.and_eq_false_iff, decide_eq_true_eq, decide_eq_false_iff_not, beq_iff_eq, beq_eq_false_iff_ne, bne_iff_ne, bne_eq_false_iff_eq, ne_eq, not_and, Int.toNat_natCast] at *); (try simp only [Row.cells, Row.wrapped, Row.end_, Cell.kind, Cell.at] at *); (try simp (disch := omega) only [wrapId, toNatAdd, toNatSucc, isAt, reduceCtorEq, or_false, and_true, Bool.and_true, Bool.and_eq_true, Bool.and_eq_false_iff, beq_iff_eq, beq_eq_false_iff_ne, ne_eq, Int.toNat_natCast] at *)) <;> first | omega | assumption | (refine ⟨?_, ?_⟩ <;> assumption))
  have h1 : (decide ((ptR p) < (mR (Ty.nth markT l (Int.toNat (↑i : Int)))))) = false := by (((try simp only [eq_self, and_true, true_and, Bool.and_true, Bool.true_and, Bool.not_eq_true', Bool.not_eq_false', Bool.and_eq_true, Bool.and_eq_false_iff, decide_eq_true_eq, decide_eq_false_iff_not, beq_iff_eq, beq_eq_false_iff_ne, bne_iff_ne, bne_eq_false_iff_eq, ne_eq, not_and, Int.toNat_natCast] at *); (try simp only [Row.cells, Row.wrapped, Row.end_, Cell.kind, Cell.at] at *); (try simp (disch := omega) only [wrapId, toNatAdd, toNatSucc, isAt, reduceCtorEq, or_false, and_true, Bool.and_true, Bool.and_eq_true, Bool.and_eq_false_iff, beq_iff_eq, beq_eq_false_iff_ne, ne_eq, Int.toNat_natCast] at *)) <;> first | omega | assumption | (refine ⟨?_, ?_⟩ <;> assumption))
  rcases Bool.eq_false_or_eq_true ((ptR p) == (mR (Ty.nth markT l (Int.toNat (↑i : Int))))) with h2 | h2
  · have h3 : (!(decide ((ptC p) < (mC (Ty.nth markT l (Int.toNat (↑i : Int))))))) = true := by (((try simp only [eq_self, and_true, true_and, Bool.and_true, Bool.true_and, Bool.not_eq_true', Bool.not_eq_false', Bool.and_eq_true, Bool.and_eq_false_iff, decide_eq_true_eq, decide_eq_false_iff_not, beq_iff_eq, beq_eq_false_iff_ne, bne_iff_ne, bne_eq_false_iff_eq, ne_eq, not_and, Int.toNat_natCast] at *); (try simp only [Row.cells, Row.wrapped, Row.end_, Cell.kind, Cell.at] at *); (try simp (disch := omega) only [wrapId, toNatAdd, toNatSucc, isAt, reduceCtorEq, or_false, and_true, Bool.and_true, Bool.and_eq_true, Bool.and_eq_false_iff, beq_iff_eq, beq_eq_false_iff_ne, ne_eq, Int.toNat_natCast] at *)) <;> first | omega | assumption | (refine ⟨?_, ?_⟩ <;> assumption))
    exact (pC (st' := { s := [((nat_lit 4), (V.obj (nat_lit 0) (nat_lit 0))), ((nat_lit 6), (V.obj (nat_lit 1) (nat_lit 0))), ((nat_lit 8), (V.obj (nat_lit 2) (nat_lit 0))), ((nat_lit 21), (V.d (D.sl (List.flatMap (Ty.enc markT) l) (List.length l)))), ((nat_lit 22), (V.d (D.int IntKind.i64 (↑(List.length l) : Int)))), ((nat_lit 23), (V.d (D.int IntKind.i64 (IntKind.wrap IntKind.i64 ((↑i : Int) + (1 : Int))))))], h := [(Ob.cells [(V.d (D.int IntKind.i64 (ptR p))), (V.d (D.int IntKind.i64 (ptC p)))]), (Ob.cells [(V.d (D.int IntKind.i64 (0 : Int))), (V.d (D.int IntKind.i64 (0 : Int)))]), (Ob.cells [(V.d (D.int IntKind.i64 (mR (Ty.nth markT l (Int.toNat (↑i : Int)))))), (V.d (D.int IntKind.i64 (mC (Ty.nth markT l (Int.toNat (↑i : Int))))))])], og := [] }) 12 [(1, bt), (2, .v (V.d (D.ref (List.flatMap (Ty.enc markT) l) ((Int.toNat (↑i : Int)) * (4 : Nat))))), (3, .v (V.d (D.agg [(D.int IntKind.i64 (mR (Ty.nth markT l (Int.toNat (↑i : Int))))), (D.int IntKind.i64 (mC (Ty.nth markT l (Int.toNat (↑i : Int))))), (D.int IntKind.i64 (mK (Ty.nth markT l (Int.toNat (↑i : Int))))), (D.int IntKind.i64 (mA (Ty.nth markT l (Int.toNat (↑i : Int)))))]))), (10, bf), (11, bf), (13, bf), (14, bf), (16, bf), (18, bf), (19, bt), (20, bt), (22, bt), (23, bt), (25, bt), (27, bf), (28, bt), (29, bf), (30, bt)] (cP h3 (cP h1 (cP h2 (cP h1 (cP h2 (cP h2 (cP h2 (cP h2 (cP h2 (cP h1 (cP h1 (cP h1 (cP h1 (cP h1 (cP h1 (cP (@loadRMarkF (l) ([(Ob.cells [(V.d (D.int IntKind.i64 (ptR p))), (V.d (D.int IntKind.i64 (ptC p)))]), (Ob.cells [(V.d (D.int IntKind.i64 (0 : Int))), (V.d (D.int IntKind.i64 (0 : Int)))]), (Ob.cells [(V.d (D.int IntKind.i64 r)), (V.d (D.int IntKind.i64 c))])]) (Int.toNat (↑i : Int)) (by (((try simp only [eq_self, and_true, true_and, Bool.and_true, Bool.true_and, Bool.not_eq_true', Bool.not_eq_false', Bool.and_eq_true, Bool.and_eq_false_iff, decide_eq_true_eq, decide_eq_false_iff_not, beq_iff_eq, beq_eq_false_iff_ne, bne_iff_ne, bne_eq_false_iff_eq, ne_eq, not_and, Int.toNat_natCast] at *); (try simp only [Row.cells, Row.wrapped, Row.end_, Cell.kind, Cell.at] at *); (try simp (disch := omega) only [wrapId, toNatAdd, toNatSucc, isAt, reduceCtorEq, or_false, and_true, Bool.and_true, Bool.and_eq_true, Bool.and_eq_false_iff, beq_iff_eq, beq_eq_false_iff_ne, ne_eq, Int.toNat_natCast] at *)) <;> first | omega | assumption | (refine ⟨?_, ?_⟩ <;> assumption)))) (cP (@iaddrRMark (l) ((↑i : Int)) (by (((try simp only [eq_self, and_true, true_and, Bool.and_true, Bool.true_and, Bool.not_eq_true', Bool.not_eq_false', Bool.and_eq_true, Bool.and_eq_false_iff, decide_eq_true_eq, decide_eq_false_iff_not, beq_iff_eq, beq_eq_false_iff_ne, bne_iff_ne, bne_eq_false_iff_eq, ne_eq, not_and, Int.toNat_natCast] at *); (try simp only [Row.cells, Row.wrapped, Row.end_, Cell.kind, Cell.at] at *); (try simp (disch := omega) only [wrapId, toNatAdd, toNatSucc, isAt, reduceCtorEq, or_false, and_true, Bool.and_true, Bool.and_eq_true, Bool.and_eq_false_iff, beq_iff_eq, beq_eq_false_iff_ne, ne_eq, Int.toNat_natCast] at *)) <;> first | omega | assumption | (refine ⟨?_, ?_⟩ <;> assumption))) (by (((try simp only [eq_self, and_true, true_and, Bool.and_true, Bool.true_and, Bool.not_eq_true', Bool.not_eq_false', Bool.and_eq_true, Bool.and_eq_false_iff, decide_eq_true_eq, decide_eq_false_iff_not, beq_iff_eq, beq_eq_false_iff_ne, bne_iff_ne, bne_eq_false_iff_eq, ne_eq, not_and, Int.toNat_natCast] at *); (try simp only [Row.cells, Row.wrapped, Row.end_, Cell.kind, Cell.at] at *); (try simp (disch := omega) only [wrapId, toNatAdd, toNatSucc, isAt, reduceCtorEq, or_false, and_true, Bool.and_true, Bool.and_eq_true, Bool.and_eq_false_iff, beq_iff_eq, beq_eq_false_iff_ne, ne_eq, Int.toNat_natCast] at *)) <;> first | omega | assumption | (refine ⟨?_, ?_⟩ <;> assumption)))) (cP h0 nilE)))))))))))))))))) (by kernel_rfl)).to (by ((try simp (disch := omega) only [wrapId, toNatAdd, toNatSucc, goesOn, Row.wrapped] at *); (try simp only [Int.toNat_natCast, beq_iff_eq, beq_eq_false_iff_ne, bne_iff_ne, bne_eq_false_iff_eq, ne_eq, Int.natCast_eq_zero, Int.natCast_inj, Row.cells] at *); first | (simp (disch := omega) [Ty.enc, stopAt, endMark, lineMarks, lineM, lineA, lineW, Row.end_, inA, inW, inM, mk, Cell.kind, Cell.at, Row.cells, wrapId, mP, isAt, toNatPred, toNatAdd, toNatSucc, goesOn, ltF, ltT, Row.wrapped, Ty.slD, *]; done) | (subst_vars; simp (disch := omega) [Ty.enc, stopAt, endMark, lineMarks, lineM, lineA, lineW, Row.end_, inA, inW, inM, mk, Cell.kind, Cell.at, Row.cells, wrapId, mP, isAt, toNatPred, toNatAdd, toNatSucc, goesOn, ltF, ltT, Row.wrapped, Ty.slD, *]; done)))
  · exact (pC (st' := { s := [((nat_lit 4), (V.obj (nat_lit 0) (nat_lit 0))), ((nat_lit 6), (V.obj (nat_lit 1) (nat_lit 0))), ((nat_lit 8), (V.obj (nat_lit 2) (nat_lit 0))), ((nat_lit 21), (V.d (D.sl (List.flatMap (Ty.enc markT) l) (List.length l)))), ((nat_lit 22), (V.d (D.int IntKind.i64 (↑(List.length l) : Int)))), ((nat_lit 23), (V.d (D.int IntKind.i64 (IntKind.wrap IntKind.i64 ((↑i : Int) + (1 : Int))))))], h := [(Ob.cells [(V.d (D.int IntKind.i64 (ptR p))), (V.d (D.int IntKind.i64 (ptC p)))]), (Ob.cells [(V.d (D.int IntKind.i64 (0 : Int))), (V.d (D.int IntKind.i64 (0 : Int)))]), (Ob.cells [(V.d (D.int IntKind.i64 (mR (Ty.nth markT l (Int.toNat (↑i : Int)))))), (V.d (D.int IntKind.i64 (mC (Ty.nth markT l (Int.toNat (↑i : Int))))))])], og := [] }) 12 [(1, bt), (2, .v (V.d (D.ref (List.flatMap (Ty.enc markT) l) ((Int.toNat (↑i : Int)) * (4 : Nat))))), (3, .v (V.d (D.agg [(D.int IntKind.i64 (mR (Ty.nth markT l (Int.toNat (↑i : Int))))), (D.int IntKind.i64 (mC (Ty.nth markT l (Int.toNat (↑i : Int))))), (D.int IntKind.i64 (mK (Ty.nth markT l (Int.toNat (↑i : Int))))), (D.int IntKind.i64 (mA (Ty.nth markT l (Int.toNat (↑i : Int)))))]))), (10, bf), (11, bf), (13, bf), (14, bf), (16, bf), (18, bf), (19, bf), (20, bf), (21, bf), (22, bf), (23, bf), (24, bf), (25, bf), (26, bf)] (cP h1 (cP h2 (cP h1 (cP h2 (cP h2 (cP h2 (cP h2 (cP h2 (cP h1 (cP h1 (cP h1 (cP h1 (cP h1 (cP h1 (cP (@loadRMarkF (l) ([(Ob.cells [(V.d (D.int IntKind.i64 (ptR p))), (V.d (D.int IntKind.i64 (ptC p)))]), (Ob.cells [(V.d (D.int IntKind.i64 (0 : Int))), (V.d (D.int IntKind.i64 (0 : Int)))]), (Ob.cells [(V.d (D.int IntKind.i64 r)), (V.d (D.int IntKind.i64 c))])]) (Int.toNat (↑i : Int)) (by (((try simp only [eq_self, and_true, true_and, Bool.and_true, Bool.true_and, Bool.not_eq_true', Bool.not_eq_false', Bool.and_eq_true, Bool.and_eq_false_iff, decide_eq_true_eq, decide_eq_false_iff_not, beq_iff_eq, beq_eq_false_iff_ne, bne_iff_ne, bne_eq_false_iff_eq, ne_eq, not_and, Int.toNat_natCast] at *); (try simp only [Row.cells, Row.wrapped, Row.end_, Cell.kind, Cell.at] at *); (try simp (disch := omega) only [wrapId, toNatAdd, toNatSucc, isAt, reduceCtorEq, or_false, and_true, Bool.and_true, Bool.and_eq_true, Bool.and_eq_false_iff, beq_iff_eq, beq_eq_false_iff_ne, ne_eq, Int.toNat_natCast] at *)) <;> first | omega | assumption | (refine ⟨?_, ?_⟩ <;> assumption)))) (cP (@iaddrRMark (l) ((↑i : Int)) (by (((try simp only [eq_self, and_true, true_and, Bool.and_true, Bool.true_and, Bool.not_eq_true', Bool.not_eq_false', Bool.and_eq_true, Bool.and_eq_false_iff, decide_eq_true_eq, decide_eq_false_iff_not, beq_iff_eq, beq_eq_false_iff_ne, bne_iff_ne, bne_eq_false_iff_eq, ne_eq, not_and, Int.toNat_natCast] at *); (try simp only [Row.cells, Row.wrapped, Row.end_, Cell.kind, Cell.at] at *); (try simp (disch := omega) only [wrapId, toNatAdd, toNatSucc, isAt, reduceCtorEq, or_false, and_true, Bool.and_true, Bool.and_eq_true, Bool.and_eq_false_iff, beq_iff_eq, beq_eq_false_iff_ne, ne_eq, Int.toNat_natCast] at *)) <;> first | omega | assumption | (refine ⟨?_, ?_⟩ <;> assumption))) (by (((try simp only [eq_self, and_true, true_and, Bool.and_true, Bool.true_and, Bool.not_eq_true', Bool.not_eq_false', Bool.and_eq_true, Bool.and_eq_false_iff, decide_eq_true_eq, decide_eq_false_iff_not, beq_iff_eq, beq_eq_false_iff_ne, bne_iff_ne, bne_eq_false_iff_eq, ne_eq, not_and, Int.toNat_natCast] at *); (try simp only [Row.cells, Row.wrapped, Row.end_, Cell.kind, Cell.at] at *); (try simp (disch := omega) only [wrapId, toNatAdd, toNatSucc, isAt, reduceCtorEq, or_false, and_true, Bool.and_true, Bool.and_eq_true, Bool.and_eq_false_iff, beq_iff_eq, beq_eq_false_iff_ne, ne_eq, Int.toNat_natCast] at *)) <;> first | omega | assumption | (refine ⟨?_, ?_⟩ <;> assumption)))) (cP h0 nilE))))))))))))))))) (by kernel_rfl)).to (by ((try simp (disch := omega) only [wrapId, toNatAdd, toNatSucc, goesOn, Row.wrapped] at *); (try simp only [Int.toNat_natCast, beq_iff_eq, beq_eq_false_iff_ne, bne_iff_ne, bne_eq_false_iff_eq, ne_eq, Int.natCast_eq_zero, Int.natCast_inj, Row.cells] at *); first | (simp (disch := omega) [Ty.enc, stopAt, endMark, lineMarks, lineM, lineA, lineW, Row.end_, inA, inW, inM, mk, Cell.kind, Cell.at, Row.cells, wrapId, mP, isAt, toNatPred, toNatAdd, toNatSucc, goesOn, ltF, ltT, Row.wrapped, Ty.slD, *]; done) | (subst_vars; simp (disch := omega) [Ty.enc, stopAt, endMark, lineMarks, lineM, lineA, lineW, Row.end_, inA, inW, inM, mk, Cell.kind, Cell.at, Row.cells, wrapId, mP, isAt, toNatPred, toNatAdd, toNatSucc, goesOn, ltF, ltT, Row.wrapped, Ty.slD, *]; done)))
set_option maxHeartbeats 4000000 in
theorem rc0E : rc0E_T := by
  intro l p r c
  have h0 : (decide ((↑(List.length l) : Int) < (↑(List.length l) : Int))) = false := by (((try simp only [eq_self, and_true, true_and, Bool.and_true, Bool.true_and, Bool.not_eq_true', Bool.not_eq_false', Bool.and_eq_true, Bool.and_eq_false_iff, decide_eq_true_eq, decide_eq_false_iff_not, beq_iff_eq, beq_eq_false_iff_ne, bne_iff_ne, bne_eq_false_iff_eq, ne_eq, not_and, Int.toNat_natCast] at *); (try simp only [Row.cells, Row.wrapped, Row.end_, Cell.kind, Cell.at] at *); (try simp (disch := omega) only [wrapId, toNatAdd, toNatSucc, isAt, reduceCtorEq, or_false, and_true, Bool.and_true, Bool.and_eq_true, Bool.and_eq_false_iff, beq_iff_eq, beq_eq_false_iff_ne, ne_eq, Int.toNat_natCast] at *)) <;> first | omega | assumption | (refine ⟨?_, ?_⟩ <;> assumption))
  exact (pR (r := ((Ex.exit (nat_lit 0)), { s := [((nat_lit 4), (V.obj (nat_lit 0) (nat_lit 0))), ((nat_lit 6), (V.obj (nat_lit 1) (nat_lit 0))), ((nat_lit 8), (V.obj (nat_lit 2) (nat_lit 0))), ((nat_lit 21), (V.d (D.sl (List.flatMap (Ty.enc markT) l) (List.length l)))), ((nat_lit 22), (V.d (D.int IntKind.i64 (↑(List.length l) : Int)))), ((nat_lit 23), (V.d (D.int IntKind.i64 (↑(List.length l) : Int)))), ((nat_lit 24), (V.d (D.bool (decide ((↑(List.length l) : Int) < (↑(List.length l) : Int))))))], h := [(Ob.cells [(V.d (D.int IntKind.i64 (ptR p))), (V.d (D.int IntKind.i64 (ptC p)))]), (Ob.cells [(V.d (D.int IntKind.i64 (0 : Int))), (V.d (D.int IntKind.i64 (0 : Int)))]), (Ob.cells [(V.d (D.int IntKind.i64 r)), (V.d (D.int IntKind.i64 c))])], og := [] })) 12 [(1, bf)] (cP h0 nilE) (by kernel_rfl)).to (by ((try simp (disch := omega) only [wrapId, toNatAdd, toNatSucc, goesOn, Row.wrapped] at *); (try simp only [Int.toNat_natCast, beq_iff_eq, beq_eq_false_iff_ne, bne_iff_ne, bne_eq_false_iff_eq, ne_eq, Int.natCast_eq_zero, Int.natCast_inj, Row.cells] at *); first | (simp (disch := omega) [Ty.enc, stopAt, endMark, lineMarks, lineM, lineA, lineW, Row.end_, inA, inW, inM, mk, Cell.kind, Cell.at, Row.cells, wrapId, mP, isAt, toNatPred, toNatAdd, toNatSucc, goesOn, ltF, ltT, Row.wrapped, Ty.slD, *]; done) | (subst_vars; simp (disch := omega) [Ty.enc, stopAt, endMark, lineMarks, lineM, lineA, lineW, Row.end_, inA, inW, inM, mk, Cell.kind, Cell.at, Row.cells, wrapId, mP, isAt, toNatPred, toNatAdd, toNatSucc, goesOn, ltF, ltT, Row.wrapped, Ty.slD, *]; done)))
set_option maxHeartbeats 4000000 in
theorem rc3 : rc3_T := by
  intro l p i hl hi hm
  have h0 : (decide ((↑i : Int) < (↑(List.length l) : Int))) = true := by (((try simp only [eq_self, and_true, true_and, Bool.and_true, Bool.true_and, Bool.not_eq_true', Bool.not_eq_false', Bool.and_eq_true, Bool.and_eq_false_iff, decide_eq_true_eq, decide_eq_false_iff_not, beq_iff_eq, beq_eq_false_iff_ne, bne_iff_ne, bne_eq_false_iff_eq, ne_eq, not_and, Int.toNat_natCast] at *); (try simp only [Row.cells, Row.wrapped, Row.end_, Cell.kind, Cell.at] at *); (try simp (disch := omega) only [wrapId, toNatAdd, toNatSucc, isAt, reduceCtorEq, or_false, and_true, Bool.and_true, Bool.and_eq_true, Bool.and_eq_false_iff, beq_iff_eq, beq_eq_false_iff_ne, ne_eq, Int.toNat_natCast] at *)) <;> first | omega | assumption | (refine ⟨?_, ?_⟩ <;> assumption))
  rcases Bool.eq_false_or_eq_true (decide ((mR (Ty.nth markT l (Int.toNat (↑i : Int)))) < (ptR p))) with h1 | h1
  · exact (pC (st' := { s := [((nat_lit 4), (V.obj (nat_lit 0) (nat_lit 0))), ((nat_lit 6), (V.obj (nat_lit 1) (nat_lit 0))), ((nat_lit 7), (V.d (D.sl (List.flatMap (Ty.enc markT) l) (List.length l)))), ((nat_lit 36), (V.d (D.sl (List.flatMap (Ty.enc markT) l) (List.length l)))), ((nat_lit 37), (V.d (D.int IntKind.i64 (↑(List.length l) : Int)))), ((nat_lit 38), (V.d (D.int IntKind.i64 (IntKind.wrap IntKind.i64 ((↑i : Int) + (1 : Int))))))], h := [(Ob.cells [(V.d (D.int IntKind.i64 (ptR p))), (V.d (D.int IntKind.i64 (ptC p)))]), (Ob.cells [(V.d (D.int IntKind.i64 (0 : Int))), (V.d (D.int IntKind.i64 (0 : Int)))])], og := [] }) 12 [(1, bt), (2, .v (V.d (D.ref (List.flatMap (Ty.enc markT) l) ((Int.toNat (↑i : Int)) * (4 : Nat))))), (3, .v (V.d (D.agg [(D.int IntKind.i64 (mR (Ty.nth markT l (Int.toNat (↑i : Int))))), (D.int IntKind.i64 (mC (Ty.nth markT l (Int.toNat (↑i : Int))))), (D.int IntKind.i64 (mK (Ty.nth markT l (Int.toNat (↑i : Int))))), (D.int IntKind.i64 (mA (Ty.nth markT l (Int.toNat (↑i : Int)))))]))), (10, bt), (11, bt), (12, bt), (13, bt), (14, bt), (15, bt), (16, bt), (17, bt)] (cP h1 (cP h1 (cP h1 (cP h1 (cP h1 (cP h1 (cP h1 (cP h1 (cP (@loadRMarkF (l) ([(Ob.cells [(V.d (D.int IntKind.i64 (ptR p))), (V.d (D.int IntKind.i64 (ptC p)))]), (Ob.cells [(V.d (D.int IntKind.i64 (0 : Int))), (V.d (D.int IntKind.i64 (0 : Int)))])]) (Int.toNat (↑i : Int)) (by (((try simp only [eq_self, and_true, true_and, Bool.and_true, Bool.true_and, Bool.not_eq_true', Bool.not_eq_false', Bool.and_eq_true, Bool.and_eq_false_iff, decide_eq_true_eq, decide_eq_false_iff_not, beq_iff_eq, beq_eq_false_iff_ne, bne_iff_ne, bne_eq_false_iff_eq, ne_eq, not_and, Int.toNat_natCast] at *); (try simp only [Row.cells, Row.wrapped, Row.end_, Cell.kind, Cell.at] at *); (try simp (disch := omega) only [wrapId, toNatAdd, toNatSucc, isAt, reduceCtorEq, or_false, and_true, Bool.and_true, Bool.and_eq_true, Bool.and_eq_false_iff, beq_iff_eq, beq_eq_false_iff_ne, ne_eq, Int.toNat_natCast] at *)) <;> first | omega | assumption | (refine ⟨?_, ?_⟩ <;> assumption)))) (cP (@iaddrRMark (l) ((↑i : Int)) (by (((try simp only [eq_self, and_true, true_and, Bool.and_true, Bool.true_and, Bool.not_eq_true', Bool.not_eq_false', Bool.and_eq_true, Bool.and_eq_false_iff, decide_eq_true_eq, decide_eq_false_iff_not, beq_iff_eq, beq_eq_false_iff_ne, bne_iff_ne, bne_eq_false_iff_eq, ne_eq, not_and, Int.toNat_natCast] at *); (try simp only [Row.cells, Row.wrapped, Row.end_, Cell.kind, Cell.at] at *); (try simp (disch := omega) only [wrapId, toNatAdd, toNatSucc, isAt, reduceCtorEq, or_false, and_true, Bool.and_true, Bool.and_eq_true, Bool.and_eq_false_iff, beq_iff_eq, beq_eq_false_iff_ne, ne_eq, Int.toNat_natCast] at *)) <;> first | omega | assumption | (refine ⟨?_, ?_⟩ <;> assumption))) (by (((try simp only [eq_self, and_true, true_and, Bool.and_true, Bool.true_and, Bool.not_eq_true', Bool.not_eq_false', Bool.and_eq_true, Bool.and_eq_false_iff, decide_eq_true_eq, decide_eq_false_iff_not, beq_iff_eq, beq_eq_false_iff_ne, bne_iff_ne, bne_eq_false_iff_eq, ne_eq, not_and, Int.toNat_natCast] at *); (try simp only [Row.cells, Row.wrapped, Row.end_, Cell.kind, Cell.at] at *); (try simp (disch := omega) only [wrapId, toNatAdd, toNatSucc, isAt, reduceCtorEq, or_false, and_true, Bool.and_true, Bool.and_eq_true, Bool.and_eq_false_iff, beq_iff_eq, beq_eq_false_iff_ne, ne_eq, Int.toNat_natCast] at *)) <;> first | omega | assumption | (refine ⟨?_, ?_⟩ <;> assumption)))) (cP h0 nilE))))))))))) (by kernel_rfl)).to (by ((try simp (disch := omega) only [wrapId, toNatAdd, toNatSucc, goesOn, Row.wrapped] at *); (try simp only [Int.toNat_natCast, beq_iff_eq, beq_eq_false_iff_ne, bne_iff_ne, bne_eq_false_iff_eq, ne_eq, Int.natCast_eq_zero, Int.natCast_inj, Row.cells] at *); first | (simp (disch := omega) [Ty.enc, stopAt, endMark, lineMarks, lineM, lineA, lineW, Row.end_, inA, inW, inM, mk, Cell.kind, Cell.at, Row.cells, wrapId, mP, isAt, toNatPred, toNatAdd, toNatSucc, goesOn, ltF, ltT, Row.wrapped, Ty.slD, *]; done) | (subst_vars; simp (disch := omega) [Ty.enc, stopAt, endMark, lineMarks, lineM, lineA, lineW, Row.end_, inA, inW, inM, mk, Cell.kind, Cell.at, Row.cells, wrapId, mP, isAt, toNatPred, toNatAdd, toNatSucc, goesOn, ltF, ltT, Row.wrapped, Ty.slD, *]; done)))
  · have h2 : ((mR (Ty.nth markT l (Int.toNat (↑i : Int)))) == (ptR p)) = true := by (((try simp only [eq_self, and_true, true_and, Bool.and_true, Bool.true_and, Bool.not_eq_true', Bool.not_eq_false', Bool.and_eq_true, Bool.and_eq_false_iff, decide_eq_true_eq, decide_eq_false_iff_not, beq_iff_eq, beq_eq_false_iff_ne, bne_iff_ne, bne_eq_false_iff_eq, ne_eq, not_and, Int.toNat_natCast] at *); (try simp only [Row.cells, Row.wrapped, Row.end_, Cell.kind, Cell.at] at *); (try simp (disch := omega) only [wrapId, toNatAdd, toNatSucc, isAt, reduceCtorEq, or_false, and_true, Bool.and_true, Bool.and_eq_true, Bool.and_eq_false_iff, beq_iff_eq, beq_eq_false_iff_ne, ne_eq, Int.toNat_natCast] at *)) <;> first | omega | assumption | (refine ⟨?_, ?_⟩ <;> assumption))
    have h3 : (!(decide ((mC (Ty.nth markT l (Int.toNat (↑i : Int)))) < (ptC p)))) = false := by (((try simp only [eq_self, and_true, true_and, Bool.and_true, Bool.true_and, Bool.not_eq_true', Bool.not_eq_false', Bool.and_eq_true, Bool.and_eq_false_iff, decide_eq_true_eq, decide_eq_false_iff_not, beq_iff_eq, beq_eq_false_iff_ne, bne_iff_ne, bne_eq_false_iff_eq, ne_eq, not_and, Int.toNat_natCast] at *); (try simp only [Row.cells, Row.wrapped, Row.end_, Cell.kind, Cell.at] at *); (try simp (disch := omega) only [wrapId, toNatAdd, toNatSucc, isAt, reduceCtorEq, or_false, and_true, Bool.and_true, Bool.and_eq_true, Bool.and_eq_false_iff, beq_iff_eq, beq_eq_false_iff_ne, ne_eq, Int.toNat_natCast] at *)) <;> first | omega | assumption | (refine ⟨?_, ?_⟩ <;> assumption))
    exact (pC (st' := { s := [((nat_lit 4), (V.obj (nat_lit 0) (nat_lit 0))), ((nat_lit 6), (V.obj (nat_lit 1) (nat_lit 0))), ((nat_lit 7), (V.d (D.sl (List.flatMap (Ty.enc markT) l) (List.length l)))), ((nat_lit 36), (V.d (D.sl (List.flatMap (Ty.enc markT) l) (List.length l)))), ((nat_lit 37), (V.d (D.int IntKind.i64 (↑(List.length l) : Int)))), ((nat_lit 38), (V.d (D.int IntKind.i64 (IntKind.wrap IntKind.i64 ((↑i : Int) + (1 : Int))))))], h := [(Ob.cells [(V.d (D.int IntKind.i64 (ptR p))), (V.d (D.int IntKind.i64 (ptC p)))]), (Ob.cells [(V.d (D.int IntKind.i64 (0 : Int))), (V.d (D.int IntKind.i64 (0 : Int)))])], og := [] }) 12 [(1, bt), (2, .v (V.d (D.ref (List.flatMap (Ty.enc markT) l) ((Int.toNat (↑i : Int)) * (4 : Nat))))), (3, .v (V.d (D.agg [(D.int IntKind.i64 (mR (Ty.nth markT l (Int.toNat (↑i : Int))))), (D.int IntKind.i64 (mC (Ty.nth markT l (Int.toNat (↑i : Int))))), (D.int IntKind.i64 (mK (Ty.nth markT l (Int.toNat (↑i : Int))))), (D.int IntKind.i64 (mA (Ty.nth markT l (Int.toNat (↑i : Int)))))]))), (10, bf), (11, bf), (13, bf), (14, bf), (16, bf), (18, bf), (19, bt), (20, bt), (22, bt), (23, bt), (25, bt), (27, bf), (28, bt), (29, bf), (30, bf)] (cP h3 (cP h1 (cP h2 (cP h1 (cP h2 (cP h2 (cP h2 (cP h2 (cP h2 (cP h1 (cP h1 (cP h1 (cP h1 (cP h1 (cP h1 (cP (@loadRMarkF (l) ([(Ob.cells [(V.d (D.int IntKind.i64 (ptR p))), (V.d (D.int IntKind.i64 (ptC p)))]), (Ob.cells [(V.d (D.int IntKind.i64 (0 : Int))), (V.d (D.int IntKind.i64 (0 : Int)))])]) (Int.toNat (↑i : Int)) (by (((try simp only [eq_self, and_true, true_and, Bool.and_true, Bool.true_and, Bool.not_eq_true', Bool.not_eq_false', Bool.and_eq_true, Bool.and_eq_false_iff, decide_eq_true_eq, decide_eq_false_iff_not, beq_iff_eq, beq_eq_false_iff_ne, bne_iff_ne, bne_eq_false_iff_eq, ne_eq, not_and, Int.toNat_natCast] at *); (try simp only [Row.cells, Row.wrapped, Row.end_, Cell.kind, Cell.at] at *); (try simp (disch := omega) only [wrapId, toNatAdd, toNatSucc, isAt, reduceCtorEq, or_false, and_true, Bool.and_true, Bool.and_eq_true, Bool.and_eq_false_iff, beq_iff_eq, beq_eq_false_iff_ne, ne_eq, Int.toNat_natCast] at *)) <;> first | omega | assumption | (refine ⟨?_, ?_⟩ <;> assumption)))) (cP (@iaddrRMark (l) ((↑i : Int)) (by (((try simp only [eq_self, and_true, true_and, Bool.and_true, Bool.true_and, Bool.not_eq_true', Bool.not_eq_false', Bool.and_eq_true, Bool.and_eq_false_iff, decide_eq_true_eq, decide_eq_false_iff_not, beq_iff_eq, beq_eq_false_iff_ne, bne_iff_ne, bne_eq_false_iff_eq, ne_eq, not_and, Int.toNat_natCast] at *); (try simp only [Row.cells, Row.wrapped, Row.end_, Cell.kind, Cell.at] at *); (try simp (disch := omega) only [wrapId, toNatAdd, toNatSucc, isAt, reduceCtorEq, or_false, and_true, Bool.and_true, Bool.and_eq_true, Bool.and_eq_false_iff, beq_iff_eq, beq_eq_false_iff_ne, ne_eq, Int.toNat_natCast] at *)) <;> first | omega | assumption | (refine ⟨?_, ?_⟩ <;> assumption))) (by (((try simp only [eq_self, and_true, true_and, Bool.and_true, Bool.true_and, Bool.not_eq_true', Bool.not_eq_false', Bool.and_eq_true, Bool.and_eq_false_iff, decide_eq_true_eq, decide_eq_false_iff_not, beq_iff_eq, beq_eq_false_iff_ne, bne_iff_ne, bne_eq_false_iff_eq, ne_eq, not_and, Int.toNat_natCast] at *); (try simp only [Row.cells, Row.wrapped, Row.end_, Cell.kind, Cell.at] at *); (try simp (disch := omega) only [wrapId, toNatAdd, toNatSucc, isAt, reduceCtorEq, or_false, and_true, Bool.and_true, Bool.and_eq_true, Bool.and_eq_false_iff, beq_iff_eq, beq_eq_false_iff_ne, ne_eq, Int.toNat_natCast] at *)) <;> first | omega | assumption | (refine ⟨?_, ?_⟩ <;> assumption)))) (cP h0 nilE)))))))))))))))))) (by kernel_rfl)).to (by ((try simp (disch := omega) only [wrapId, toNatAdd, toNatSucc, goesOn, Row.wrapped] at *); (try simp only [Int.toNat_natCast, beq_iff_eq, beq_eq_false_iff_ne, bne_iff_ne, bne_eq_false_iff_eq, ne_eq, Int.natCast_eq_zero, Int.natCast_inj, Row.cells] at *); first | (simp (disch := omega) [Ty.enc, stopAt, endMark, lineMarks, lineM, lineA, lineW, Row.end_, inA, inW, inM, mk, Cell.kind, Cell.at, Row.cells, wrapId, mP, isAt, toNatPred, toNatAdd, toNatSucc, goesOn, ltF, ltT, Row.wrapped, Ty.slD, *]; done) | (subst_vars; simp (disch := omega) [Ty.enc, stopAt, endMark, lineMarks, lineM, lineA, lineW, Row.end_, inA, inW, inM, mk, Cell.kind, Cell.at, Row.cells, wrapId, mP, isAt, toNatPred, toNatAdd, toNatSucc, goesOn, ltF, ltT, Row.wrapped, Ty.slD, *]; done)))
set_option maxHeartbeats 4000000 in
theorem rc4 : rc4_T := by
  intro l p i hl hi hm
  have h0 : (decide ((↑i : Int) < (↑(List.length l) : Int))) = true := by (((try simp only [eq_self, and_true, true_and, Bool.and_true, Bool.true_and, Bool.not_eq_true', Bool.not_eq_false', Bool.and_eq_true, Bool.and_eq_false_iff, decide_eq_true_eq, decide_eq_false_iff_not, beq_iff_eq, beq_eq_false_iff_ne, bne_iff_ne, bne_eq_false_iff_eq, ne_eq, not_and, Int.toNat_natCast] at *); (try simp only [Row.cells, Row.wrapped, Row.end_, Cell.kind, Cell.at] at *); (try simp (disch := omega) only [wrapId, toNatAdd, toNatSucc, isAt, reduceCtorEq, or_false, and_true, Bool.and_true, Bool.and_eq_true, Bool.and_eq_false_iff, beq_iff_eq, beq_eq_false_iff_ne, ne_eq, Int.toNat_natCast] at *)) <;> first | omega | assumption | (refine ⟨?_, ?_⟩ <;> assumption))
  have h1 : (decide ((mR (Ty.nth markT l (Int.toNat (↑i : Int)))) < (ptR p))) = false := by (((try simp only [eq_self, and_true, true_and, Bool.and_true, Bool.true_and, Bool.not_eq_true', Bool.not_eq_false', Bool.and_eq_true, Bool.and_eq_false_iff, decide_eq_true_eq, decide_eq_false_iff_not, beq_iff_eq, beq_eq_false_iff_ne, bne_iff_ne, bne_eq_false_iff_eq, ne_eq, not_and, Int.toNat_natCast] at *); (try simp only [Row.cells, Row.wrapped, Row.end_, Cell.kind, Cell.at] at *); (try simp (disch := omega) only [wrapId, toNatAdd, toNatSucc, isAt, reduceCtorEq, or_false, and_true, Bool.and_true, Bool.and_eq_true, Bool.and_eq_false_iff, beq_iff_eq, beq_eq_false_iff_ne, ne_eq, Int.toNat_natCast] at *)) <;> first | omega | assumption | (refine ⟨?_, ?_⟩ <;> assumption))
  rcases Bool.eq_false_or_eq_true ((mR (Ty.nth markT l (Int.toNat (↑i : Int)))) == (ptR p)) with h2 | h2
  · have h3 : (!(decide ((mC (Ty.nth markT l (Int.toNat (↑i : Int)))) < (ptC p)))) = true := by (((try simp only [eq_self, and_true, true_and, Bool.and_true, Bool.true_and, Bool.not_eq_true', Bool.not_eq_false', Bool.and_eq_true, Bool.and_eq_false_iff, decide_eq_true_eq, decide_eq_false_iff_not, beq_iff_eq, beq_eq_false_iff_ne, bne_iff_ne, bne_eq_false_iff_eq, ne_eq, not_and, Int.toNat_natCast] at *); (try simp only [Row.cells, Row.wrapped, Row.end_, Cell.kind, Cell.at] at *); (try simp (disch := omega) only [wrapId, toNatAdd, toNatSucc, isAt, reduceCtorEq, or_false, and_true, Bool.and_true, Bool.and_eq_true, Bool.and_eq_false_iff, beq_iff_eq, beq_eq_false_iff_ne, ne_eq, Int.toNat_natCast] at *)) <;> first | omega | assumption | (refine ⟨?_, ?_⟩ <;> assumption))
    exact pR 12 [(1, bt), (2, .v (V.d (D.ref (List.flatMap (Ty.enc markT) l) ((Int.toNat (↑i : Int)) * (4 : Nat))))), (3, .v (V.d (D.agg [(D.int IntKind.i64 (mR (Ty.nth markT l (Int.toNat (↑i : Int))))), (D.int IntKind.i64 (mC (Ty.nth markT l (Int.toNat (↑i : Int))))), (D.int IntKind.i64 (mK (Ty.nth markT l (Int.toNat (↑i : Int))))), (D.int IntKind.i64 (mA (Ty.nth markT l (Int.toNat (↑i : Int)))))]))), (10, bf), (11, bf), (13, bf), (14, bf), (16, bf), (18, bf), (19, bt), (20, bt), (22, bt), (23, bt), (25, bt), (27, bf), (28, bt), (29, bf), (30, bt)] (cP h3 (cP h1 (cP h2 (cP h1 (cP h2 (cP h2 (cP h2 (cP h2 (cP h2 (cP h1 (cP h1 (cP h1 (cP h1 (cP h1 (cP h1 (cP (@loadRMarkF (l) ([(Ob.cells [(V.d (D.int IntKind.i64 (ptR p))), (V.d (D.int IntKind.i64 (ptC p)))]), (Ob.cells [(V.d (D.int IntKind.i64 (0 : Int))), (V.d (D.int IntKind.i64 (0 : Int)))])]) (Int.toNat (↑i : Int)) (by (((try simp only [eq_self, and_true, true_and, Bool.and_true, Bool.true_and, Bool.not_eq_true', Bool.not_eq_false', Bool.and_eq_true, Bool.and_eq_false_iff, decide_eq_true_eq, decide_eq_false_iff_not, beq_iff_eq, beq_eq_false_iff_ne, bne_iff_ne, bne_eq_false_iff_eq, ne_eq, not_and, Int.toNat_natCast] at *); (try simp only [Row.cells, Row.wrapped, Row.end_, Cell.kind, Cell.at] at *); (try simp (disch := omega) only [wrapId, toNatAdd, toNatSucc, isAt, reduceCtorEq, or_false, and_true, Bool.and_true, Bool.and_eq_true, Bool.and_eq_false_iff, beq_iff_eq, beq_eq_false_iff_ne, ne_eq, Int.toNat_natCast] at *)) <;> first | omega | assumption | (refine ⟨?_, ?_⟩ <;> assumption)))) (cP (@iaddrRMark (l) ((↑i : Int)) (by (((try simp only [eq_self, and_true, true_and, Bool.and_true, Bool.true_and, Bool.not_eq_true', Bool.not_eq_false', Bool.and_eq_true, Bool.and_eq_false_iff, decide_eq_true_eq, decide_eq_false_iff_not, beq_iff_eq, beq_eq_false_iff_ne, bne_iff_ne, bne_eq_false_iff_eq, ne_eq, not_and, Int.toNat_natCast] at *); (try simp only [Row.cells, Row.wrapped, Row.end_, Cell.kind, Cell.at] at *); (try simp (disch := omega) only [wrapId, toNatAdd, toNatSucc, isAt, reduceCtorEq, or_false, and_true, Bool.and_true, Bool.and_eq_true, Bool.and_eq_false_iff, beq_iff_eq, beq_eq_false_iff_ne, ne_eq, Int.toNat_natCast] at *)) <;> first | omega | assumption | (refine ⟨?_, ?_⟩ <;> assumption))) (by (((try simp only [eq_self, and_true, true_and, Bool.and_true, Bool.true_and, Bool.not_eq_true', Bool.not_eq_false', Bool.and_eq_true, Bool.and_eq_false_iff, decide_eq_true_eq, decide_eq_false_iff_not, beq_iff_eq, beq_eq_false_iff_ne, bne_iff_ne, bne_eq_false_iff_eq, ne_eq, not_and, Int.toNat_natCast] at *); (try simp only [Row.cells, Row.wrapped, Row.end_, Cell.kind, Cell.at] at *); (try simp (disch := omega) only [wrapId, toNatAdd, toNatSucc, isAt, reduceCtorEq, or_false, and_true, Bool.and_true, Bool.and_eq_true, Bool.and_eq_false_iff, beq_iff_eq, beq_eq_false_iff_ne, ne_eq, Int.toNat_natCast] at *)) <;> first | omega | assumption | (refine ⟨?_, ?_⟩ <;> assumption)))) (cP h0 nilE)))))))))))))))))) (by kernel_rfl)
  · exact pR 12 [(1, bt), (2, .v (V.d (D.ref (List.flatMap (Ty.enc markT) l) ((Int.toNat (↑i : Int)) * (4 : Nat))))), (3, .v (V.d (D.agg [(D.int IntKind.i64 (mR (Ty.nth markT l (Int.toNat (↑i : Int))))), (D.int IntKind.i64 (mC (Ty.nth markT l (Int.toNat (↑i : Int))))), (D.int IntKind.i64 (mK (Ty.nth markT l (Int.toNat (↑i : Int))))), (D.int IntKind.i64 (mA (Ty.nth markT l (Int.toNat (↑i : Int)))))]))), (10, bf), (11, bf), (13, bf), (14, bf), (16, bf), (18, bf), (19, bf), (20, bf), (21, bf), (22, bf), (23, bf), (24, bf), (25, bf), (26, bf)] (cP h1 (cP h2 (cP h1 (cP h2 (cP h2 (cP h2 (cP h2 (cP h2 (cP h1 (cP h1 (cP h1 (cP h1 (cP h1 (cP h1 (cP (@loadRMarkF (l) ([(Ob.cells [(V.d (D.int IntKind.i64 (ptR p))), (V.d (D.int IntKind.i64 (ptC p)))]), (Ob.cells [(V.d (D.int IntKind.i64 (0 : Int))), (V.d (D.int IntKind.i64 (0 : Int)))])]) (Int.toNat (↑i : Int)) (by (((try simp only [eq_self, and_true, true_and, Bool.and_true, Bool.true_and, Bool.not_eq_true', Bool.not_eq_false', Bool.and_eq_true, Bool.and_eq_false_iff, decide_eq_true_eq, decide_eq_false_iff_not, beq_iff_eq, beq_eq_false_iff_ne, bne_iff_ne, bne_eq_false_iff_eq, ne_eq, not_and, Int.toNat_natCast] at *); (try simp only [Row.cells, Row.wrapped, Row.end_, Cell.kind, Cell.at] at *); (try simp (disch := omega) only [wrapId, toNatAdd, toNatSucc, isAt, reduceCtorEq, or_false, and_true, Bool.and_true, Bool.and_eq_true, Bool.and_eq_false_iff, beq_iff_eq, beq_eq_false_iff_ne, ne_eq, Int.toNat_natCast] at *)) <;> first | omega | assumption | (refine ⟨?_, ?_⟩ <;> assumption)))) (cP (@iaddrRMark (l) ((↑i : Int)) (by (((try simp only [eq_self, and_true, true_and, Bool.and_true, Bool.true_and, Bool.not_eq_true', Bool.not_eq_false', Bool.and_eq_true, Bool.and_eq_false_iff, decide_eq_true_eq, decide_eq_false_iff_not, beq_iff_eq, beq_eq_false_iff_ne, bne_iff_ne, bne_eq_false_iff_eq, ne_eq, not_and, Int.toNat_natCast] at *); (try simp only [Row.cells, Row.wrapped, Row.end_, Cell.kind, Cell.at] at *); (try simp (disch := omega) only [wrapId, toNatAdd, toNatSucc, isAt, reduceCtorEq, or_false, and_true, Bool.and_true, Bool.and_eq_true, Bool.and_eq_false_iff, beq_iff_eq, beq_eq_false_iff_ne, ne_eq, Int.toNat_natCast] at *)) <;> first | omega | assumption | (refine ⟨?_, ?_⟩ <;> assumption))) (by (((try simp only [eq_self, and_true, true_and, Bool.and_true, Bool.true_and, Bool.not_eq_true', Bool.not_eq_false', Bool.and_eq_true, Bool.and_eq_false_iff, decide_eq_true_eq, decide_eq_false_iff_not, beq_iff_eq, beq_eq_false_iff_ne, bne_iff_ne, bne_eq_false_iff_eq, ne_eq, not_and, Int.toNat_natCast] at *); (try simp only [Row.cells, Row.wrapped, Row.end_, Cell.kind, Cell.at] at *); (try simp (disch := omega) only [wrapId, toNatAdd, toNatSucc, isAt, reduceCtorEq, or_false, and_true, Bool.and_true, Bool.and_eq_true, Bool.and_eq_false_iff, beq_iff_eq, beq_eq_false_iff_ne, ne_eq, Int.toNat_natCast] at *)) <;> first | omega | assumption | (refine ⟨?_, ?_⟩ <;> assumption)))) (cP h0 nilE))))))))))))))))) (by kernel_rfl)
set_option maxHeartbeats 4000000 in
theorem rc1E : rc1E_T := by
  intro l p
  have h0 : (decide ((↑(List.length l) : Int) < (↑(List.length l) : Int))) = false := by (((try simp only [eq_self, and_true, true_and, Bool.and_true, Bool.true_and, Bool.not_eq_true', Bool.not_eq_false', Bool.and_eq_true, Bool.and_eq_false_iff, decide_eq_true_eq, decide_eq_false_iff_not, beq_iff_eq, beq_eq_false_iff_ne, bne_iff_ne, bne_eq_false_iff_eq, ne_eq, not_and, Int.toNat_natCast] at *); (try simp only [Row.cells, Row.wrapped, Row.end_, Cell.kind, Cell.at] at *); (try simp (disch := omega) only [wrapId, toNatAdd, toNatSucc, isAt, reduceCtorEq, or_false, and_true, Bool.and_true, Bool.and_eq_true, Bool.and_eq_false_iff, beq_iff_eq, beq_eq_false_iff_ne, ne_eq, Int.toNat_natCast] at *)) <;> first | omega | assumption | (refine ⟨?_, ?_⟩ <;> assumption))
  exact (pR (r := ((Ex.exit (nat_lit 2)), { s := [((nat_lit 4), (V.obj (nat_lit 0) (nat_lit 0))), ((nat_lit 6), (V.obj (nat_lit 1) (nat_lit 0))), ((nat_lit 7), (V.d (D.sl (List.flatMap (Ty.enc markT) l) (List.length l)))), ((nat_lit 36), (V.d (D.sl (List.flatMap (Ty.enc markT) l) (List.length l)))), ((nat_lit 37), (V.d (D.int IntKind.i64 (↑(List.length l) : Int)))), ((nat_lit 38), (V.d (D.int IntKind.i64 (↑(List.length l) : Int)))), ((nat_lit 39), (V.d (D.bool (decide ((↑(List.length l) : Int) < (↑(List.length l) : Int))))))], h := [(Ob.cells [(V.d (D.int IntKind.i64 (ptR p))), (V.d (D.int IntKind.i64 (ptC p)))]), (Ob.cells [(V.d (D.int IntKind.i64 (0 : Int))), (V.d (D.int IntKind.i64 (0 : Int)))])], og := [] })) 12 [(1, bf)] (cP h0 nilE) (by kernel_rfl)).to (by ((try simp (disch := omega) only [wrapId, toNatAdd, toNatSucc, goesOn, Row.wrapped] at *); (try simp only [Int.toNat_natCast, beq_iff_eq, beq_eq_false_iff_ne, bne_iff_ne, bne_eq_false_iff_eq, ne_eq, Int.natCast_eq_zero, Int.natCast_inj, Row.cells] at *); first | (simp (disch := omega) [Ty.enc, stopAt, endMark, lineMarks, lineM, lineA, lineW, Row.end_, inA, inW, inM, mk, Cell.kind, Cell.at, Row.cells, wrapId, mP, isAt, toNatPred, toNatAdd, toNatSucc, goesOn, ltF, ltT, Row.wrapped, Ty.slD, *]; done) | (subst_vars; simp (disch := omega) [Ty.enc, stopAt, endMark, lineMarks, lineM, lineA, lineW, Row.end_, inA, inW, inM, mk, Cell.kind, Cell.at, Row.cells, wrapId, mP, isAt, toNatPred, toNatAdd, toNatSucc, goesOn, ltF, ltT, Row.wrapped, Ty.slD, *]; done)))
end Go.Proofs.Ytaobccodpdmieaa.Points
/- Points: pick and the reference's Clip as one; statements of Clip. -/
set_option linter.unusedVariables false
set_option linter.unusedSimpArgs false
set_option maxRecDepth 100000
namespace Go.Proofs.Ytaobccodpdmieaa.Points
open Go Pv G
def pkB (l : List Mark) (p : Point) : Nat → Nat → Mark → Mark
  | 0, _, b => b
  | f + 1, i, b => pkB l p f (i + 1) (if isBh (markT.nth l i) p then b else markT.nth l i)
def pkA (l : List Mark) (p : Point) : Nat → Nat → Mark → Mark
  | 0, _, b => b
  | f + 1, i, b => pkA l p f (i + 1) (if isAh (markT.nth l i) p then b else markT.nth l i)
theorem pkBC (l : List Mark) (p : Point) (hl : l.length < 100000000) : ∀ f i b m, f + i = l.length → f < m → LpC X0 0 (ntOf X0 FPk) (lpKeep X0 FPk 0) (lpBody X0 FPk 0) 3 m (stPk fBh l p b i) (.exit 0, stPkx fBh l p (pkB l p f i b) l.length) := by
  intro f
  induction f with
  | zero =>
    intro i b m hi hm
    obtain ⟨m, rfl⟩ : ∃ x, m = x + 1 := ⟨m - 1, by omega⟩
    obtain rfl : i = l.length := by omega
    exact LpC.last (pkBE l p b) (by simp)
  | succ f ih =>
    intro i b m hi hm
    obtain ⟨m, rfl⟩ : ∃ x, m = x + 1 := ⟨m - 1, by omega⟩
    simp only [pkB]
    by_cases h : isBh (markT.nth l i) p
    · rw [if_pos h]
      exact LpC.next (pkB1 l p b i hl (by omega) h) (ih (i + 1) b m (by omega) (by omega))
    · rw [if_neg h]
      exact LpC.next (pkB2 l p b i hl (by omega) h) (ih (i + 1) _ m (by omega) (by omega))
theorem pkAC (l : List Mark) (p : Point) (hl : l.length < 100000000) : ∀ f i b m, f + i = l.length → f < m → LpC X0 0 (ntOf X0 FPk) (lpKeep X0 FPk 0) (lpBody X0 FPk 0) 3 m (stPk fAh l p b i) (.exit 0, stPkx fAh l p (pkA l p f i b) l.length) := by
  intro f
  induction f with
  | zero =>
    intro i b m hi hm
    obtain ⟨m, rfl⟩ : ∃ x, m = x + 1 := ⟨m - 1, by omega⟩
    obtain rfl : i = l.length := by omega
    exact LpC.last (pkAE l p b) (by simp)
  | succ f ih =>
    intro i b m hi hm
    obtain ⟨m, rfl⟩ : ∃ x, m = x + 1 := ⟨m - 1, by omega⟩
    simp only [pkA]
    by_cases h : isAh (markT.nth l i) p
    · rw [if_pos h]
      exact LpC.next (pkA1 l p b i hl (by omega) h) (ih (i + 1) b m (by omega) (by omega))
    · rw [if_neg h]
      exact LpC.next (pkA2 l p b i hl (by omega) h) (ih (i + 1) _ m (by omega) (by omega))
def pickBm (l : List Mark) (p : Point) : Mark := pkB l p l.length 0 (markT.nth l 0)
def pickAm (l : List Mark) (p : Point) : Mark := pkA l p l.length 0 (markT.nth l 0)
def pkBL_T : Prop := ∀ (l : List Mark) (p : Point) (hl : l.length < 100000000), Lp X0 0 (ntOf X0 FPk) (lpKeep X0 FPk 0) (lpBody X0 FPk 0) 3 FUEL (stPk fBh l p (markT.nth l 0) 0) (.exit 0, stPkx fBh l p (pickBm l p) l.length)
theorem pkBL : pkBL_T := fun l p hl => LpC.start (m := 1152921504606846975) (pkBC l p hl l.length 0 _ _ (by omega) (by omega)) (by kernel_rfl)
def pkAL_T : Prop := ∀ (l : List Mark) (p : Point) (hl : l.length < 100000000), Lp X0 0 (ntOf X0 FPk) (lpKeep X0 FPk 0) (lpBody X0 FPk 0) 3 FUEL (stPk fAh l p (markT.nth l 0) 0) (.exit 0, stPkx fAh l p (pickAm l p) l.length)
theorem pkAL : pkAL_T := fun l p hl => LpC.start (m := 1152921504606846975) (pkAC l p hl l.length 0 _ _ (by omega) (by omega)) (by kernel_rfl)
abbrev ptD (p : Point) : D := .agg [.int .i64 (ptR p), .int .i64 (ptC p)]
abbrev mkD (m : Mark) : D := .agg [.int .i64 (mR m), .int .i64 (mC m), .int .i64 (mK m), .int .i64 (mA m)]
def pickB_T : Prop := ∀ (l : List Mark) (p : Point) (hp : 1 ≤ l.length) (hl : l.length < 100000000), Ans X0 FPk [.d (markT.slD l), .d (ptD p), .d (.fn fBh)] (.d (mkD (pickBm l p)))
def pickA_T : Prop := ∀ (l : List Mark) (p : Point) (hp : 1 ≤ l.length) (hl : l.length < 100000000), Ans X0 FPk [.d (markT.slD l), .d (ptD p), .d (.fn fAh)] (.d (mkD (pickAm l p)))
/- the reference -/
def rc0F (l : List Mark) (p : Point) : Nat → Nat → Int → Int → Int × Int
  | 0, _, r, c => (r, c)
  | f + 1, i, r, c => if ptR p < mR (markT.nth l i) ∨ (ptR p = mR (markT.nth l i) ∧ ptC p < mC (markT.nth l i)) then rc0F l p f (i + 1) r c else rc0F l p f (i + 1) (mR (markT.nth l i)) (mC (markT.nth l i))
theorem rc0C (l : List Mark) (p : Point) (hl : l.length < 100000000) : ∀ f i r c m, f + i = l.length → f < m → LpC X0 0 (ntOf X0 FRC) (lpKeep X0 FRC 0) (lpBody X0 FRC 0) 3 m (stR0 l p r c i) (.exit 0, stR0x l p (rc0F l p f i r c).1 (rc0F l p f i r c).2 l.length) := by
  intro f
  induction f with
  | zero =>
    intro i r c m hi hm
    obtain ⟨m, rfl⟩ : ∃ x, m = x + 1 := ⟨m - 1, by omega⟩
    obtain rfl : i = l.length := by omega
    exact LpC.last (rc0E l p r c) (by simp)
  | succ f ih =>
    intro i r c m hi hm
    obtain ⟨m, rfl⟩ : ∃ x, m = x + 1 := ⟨m - 1, by omega⟩
    simp only [rc0F]
    split
    · rename_i h
      exact LpC.next (rc1 l p r c i hl (by omega) h) (ih (i + 1) _ _ m (by omega) (by omega))
    · rename_i h
      exact LpC.next (rc2 l p r c i hl (by omega) h) (ih (i + 1) _ _ m (by omega) (by omega))
def best0 (l : List Mark) (p : Point) : Int × Int := rc0F l p l.length 0 (mR (markT.nth l 0)) (mC (markT.nth l 0))
def rc0L_T : Prop := ∀ (l : List Mark) (p : Point) (hl : l.length < 100000000), Lp X0 0 (ntOf X0 FRC) (lpKeep X0 FRC 0) (lpBody X0 FRC 0) 3 FUEL (stR0 l p (mR (markT.nth l 0)) (mC (markT.nth l 0)) 0) (.exit 0, stR0x l p (best0 l p).1 (best0 l p).2 l.length)
theorem rc0L : rc0L_T := fun l p hl => LpC.start (m := 1152921504606846975) (rc0C l p hl l.length 0 _ _ _ (by omega) (by omega)) (by kernel_rfl)
/-- The first mark that is not ahead of a point; -1: all are. -/
def fiF (l : List Mark) (p : Point) : Nat → Nat → Int
  | 0, _ => -1
  | f + 1, i => if isAh (markT.nth l i) p then fiF l p f (i + 1) else (i : Int)
def fiA (l : List Mark) (p : Point) : Int := fiF l p l.length 0
theorem rcHitC (l : List Mark) (p : Point) (hl : l.length < 100000000) : ∀ f i m, f + i = l.length → 0 ≤ fiF l p f i → f < m → LpC X0 0 (ntOf X0 FRC) (lpKeep X0 FRC 1) (lpBody X0 FRC 1) 2 m (stR1 l p i) (.ret, ⟨[(6, .obj 1 0)], [boxP p, .cells [.d (.int .i64 (mR (markT.nth l (fiF l p f i).toNat))), .d (.int .i64 (mC (markT.nth l (fiF l p f i).toNat)))], boxM (markT.nth l (fiF l p f i).toNat)], []⟩) := by
  intro f
  induction f with
  | zero => intro i m hi h; simp [fiF] at h
  | succ f ih =>
    intro i m hi h hm
    obtain ⟨m, rfl⟩ : ∃ x, m = x + 1 := ⟨m - 1, by omega⟩
    simp only [fiF] at h ⊢
    by_cases ha : isAh (markT.nth l i) p
    · rw [if_pos ha] at h ⊢
      exact LpC.next (rc3 l p i hl (by omega) ha) (ih (i + 1) m (by omega) h (by omega))
    · rw [if_neg ha]
      have := LpC.last (n := 2) (keep := lpKeep X0 FRC 1) (m := m + 1) (rc4 l p i hl (by omega) ha) (by simp)
      simpa using this
theorem rcNoC (l : List Mark) (p : Point) (hl : l.length < 100000000) : ∀ f i m, f + i = l.length → fiF l p f i < 0 → f < m → LpC X0 0 (ntOf X0 FRC) (lpKeep X0 FRC 1) (lpBody X0 FRC 1) 2 m (stR1 l p i) (.exit 2, stR1x l p l.length) := by
  intro f
  induction f with
  | zero =>
    intro i m hi h hm
    obtain ⟨m, rfl⟩ : ∃ x, m = x + 1 := ⟨m - 1, by omega⟩
    obtain rfl : i = l.length := by omega
    exact LpC.last (rc1E l p) (by simp)
  | succ f ih =>
    intro i m hi h hm
    obtain ⟨m, rfl⟩ : ∃ x, m = x + 1 := ⟨m - 1, by omega⟩
    simp only [fiF] at h
    by_cases ha : isAh (markT.nth l i) p
    · rw [if_pos ha] at h
      exact LpC.next (rc3 l p i hl (by omega) ha) (ih (i + 1) m (by omega) h (by omega))
    · rw [if_neg ha] at h; omega
def rcHitL_T : Prop := ∀ (l : List Mark) (p : Point) (hl : l.length < 100000000) (hf : 0 ≤ fiA l p), Lp X0 0 (ntOf X0 FRC) (lpKeep X0 FRC 1) (lpBody X0 FRC 1) 2 FUEL (stR1 l p 0) (.ret, ⟨[(6, .obj 1 0)], [boxP p, .cells [.d (.int .i64 (mR (markT.nth l (fiA l p).toNat))), .d (.int .i64 (mC (markT.nth l (fiA l p).toNat)))], boxM (markT.nth l (fiA l p).toNat)], []⟩)
theorem rcHitL : rcHitL_T := fun l p hl hf => LpC.start (m := 1152921504606846975) (rcHitC l p hl l.length 0 _ (by omega) hf (by omega)) (by kernel_rfl)
def rcNoL_T : Prop := ∀ (l : List Mark) (p : Point) (hl : l.length < 100000000) (hf : fiA l p < 0), Lp X0 0 (ntOf X0 FRC) (lpKeep X0 FRC 1) (lpBody X0 FRC 1) 2 FUEL (stR1 l p 0) (.exit 2, stR1x l p l.length)
theorem rcNoL : rcNoL_T := fun l p hl hf => LpC.start (m := 1152921504606846975) (rcNoC l p hl l.length 0 _ (by omega) hf (by omega)) (by kernel_rfl)
def loadRMarkPF_T : Prop := ∀ (l : List Mark) (h : List Ob) (k : Nat) (hk : k < l.length), loadV X0 h 31 (.d (.ref (l.flatMap markT.enc) (k * 4 + 0))) = some (.d (.agg [.int .i64 (mR (markT.nth l k)), .int .i64 (mC (markT.nth l k))]))
theorem loadRMarkPF : loadRMarkPF_T := fun l h k hk => loadRMarkP l h k hk
def loadMark0_T : Prop := ∀ (l : List Mark) (h : List Ob) (hk : 1 ≤ l.length), loadV X0 h 77 (.d (.ref (l.flatMap markT.enc) 0)) = some (.d (mkD (markT.nth l 0)))
theorem loadMark0 : loadMark0_T := fun l h hk => loadMarkF l h 0 (by omega)
def loadRMarkP0_T : Prop := ∀ (l : List Mark) (h : List Ob) (hk : 1 ≤ l.length), loadV X0 h 31 (.d (.ref (l.flatMap markT.enc) 0)) = some (.d (.agg [.int .i64 (mR (markT.nth l 0)), .int .i64 (mC (markT.nth l 0))]))
theorem loadRMarkP0 : loadRMarkP0_T := fun l h hk => loadRMarkPF l h 0 (by omega)
def rclip0_T : Prop := ∀ (rows : List Row) (p : Point) (hs : smallR rows) (hm : 1 ≤ (allMarks rows).length) (hl : (allMarks rows).length < 100000000), Ans X0 FRC [.d (rowT.slD rows), .d (ptD p), .d (.int .i64 0)] (.d (.agg [.int .i64 (best0 (allMarks rows) p).1, .int .i64 (best0 (allMarks rows) p).2]))
def rclipA_T : Prop := ∀ (rows : List Row) (p : Point) (hs : smallR rows) (hm : 1 ≤ (allMarks rows).length) (hl : (allMarks rows).length < 100000000) (hf : 0 ≤ fiA (allMarks rows) p), Ans X0 FRC [.d (rowT.slD rows), .d (ptD p), .d (.int .i64 1)] (.d (.agg [.int .i64 (mR (markT.nth (allMarks rows) (fiA (allMarks rows) p).toNat)), .int .i64 (mC (markT.nth (allMarks rows) (fiA (allMarks rows) p).toNat))]))
def rclipN_T : Prop := ∀ (rows : List Row) (p : Point) (hs : smallR rows) (hm : 1 ≤ (allMarks rows).length) (hl : (allMarks rows).length < 100000000) (hf : fiA (allMarks rows) p < 0), Ans X0 FRC [.d (rowT.slD rows), .d (ptD p), .d (.int .i64 1)] (.d (.agg [.int .i64 (mR (markT.nth (allMarks rows) ((allMarks rows).length - 1))), .int .i64 (mC (markT.nth (allMarks rows) ((allMarks rows).length - 1)))]))
abbrev FCl : Nat := 23
def clip0_T : Prop := ∀ (rows : List Row) (p : Point) (hs : smallR rows) (hr : 1 ≤ rows.length) (hr2 : rows.length ≤ 900) (hm : 1 ≤ (allMarks rows).length) (hl : (allMarks rows).length < 100000000), Ans X0 FCl [.d (rowT.slD rows), .d (ptD p), .d (.int .i64 0)] (.d (.tup [.agg [.int .i64 (mR (pickBm (allMarks rows) p)), .int .i64 (mC (pickBm (allMarks rows) p))], .int .i64 0]))
def clipE_T : Prop := ∀ (rows : List Row) (p : Point) (b : Int) (hr : rows.length = 0), Ans X0 FCl [.d (rowT.slD rows), .d (ptD p), .d (.int .i64 b)] (.d (.tup [.agg [.int .i64 0, .int .i64 0], .int .i64 6]))
def clipX_T : Prop := ∀ (rows : List Row) (p : Point) (b : Int) (hr : 1 ≤ rows.length) (hr2 : rows.length ≤ 900) (hb : b ≠ 0) (hc : b ≠ 1), Ans X0 FCl [.d (rowT.slD rows), .d (ptD p), .d (.int .i64 b)] (.d (.tup [.agg [.int .i64 0, .int .i64 0], .int .i64 1]))
end Go.Proofs.Ytaobccodpdmieaa.Points
/- Points: paths, printed by a program of mine. -/
set_option maxRecDepth 100000
set_option linter.unusedSimpArgs false
set_option linter.unusedVariables false
namespace Go.Proofs.Ytaobccodpdmieaa.Points
open Go Pv G
set_option maxHeartbeats 4000000 in
theorem pickB : pickB_T := by
  intro l p hp hl
  exact pV 12 [(0, .v (V.d (D.ref (List.flatMap (Ty.enc markT) l) ((Int.toNat (0 : Int)) * (4 : Nat))))), (1, .v (V.d (mkD (Ty.nth markT l (0 : Nat))))), (3, .l (Ex.exit (0 : Nat)) (stPkx fBh l p (pickBm l p) (List.length l)))] (cE (@pkBL (l) (p) hl) (cP (@loadMark0 (l) ([(Ob.cells [(V.d (D.int IntKind.i64 (ptR p))), (V.d (D.int IntKind.i64 (ptC p)))]), (Ob.cells [(V.d (D.int IntKind.i64 (0 : Int))), (V.d (D.int IntKind.i64 (0 : Int))), (V.d (D.int IntKind.i64 (0 : Int))), (V.d (D.int IntKind.i64 (0 : Int)))])]) hp) (cP (@iaddrMark (l) ((0 : Int)) (by (((try simp only [eq_self, and_true, true_and, Bool.and_true, Bool.true_and, Bool.not_eq_true', Bool.not_eq_false', Bool.and_eq_true, Bool.and_eq_false_iff, decide_eq_true_eq, decide_eq_false_iff_not, beq_iff_eq, beq_eq_false_iff_ne, bne_iff_ne, bne_eq_false_iff_eq, ne_eq, not_and, Int.toNat_natCast] at *); (try simp only [Row.cells, Row.wrapped, Row.end_, Cell.kind, Cell.at] at *); (try simp (disch := omega) only [wrapId, toNatAdd, toNatSucc, isAt, reduceCtorEq, or_false, and_true, Bool.and_true, Bool.and_eq_true, Bool.and_eq_false_iff, beq_iff_eq, beq_eq_false_iff_ne, ne_eq, Int.toNat_natCast] at *)) <;> first | omega | assumption | (refine ⟨?_, ?_⟩ <;> assumption))) (by (((try simp only [eq_self, and_true, true_and, Bool.and_true, Bool.true_and, Bool.not_eq_true', Bool.not_eq_false', Bool.and_eq_true, Bool.and_eq_false_iff, decide_eq_true_eq, decide_eq_false_iff_not, beq_iff_eq, beq_eq_false_iff_ne, bne_iff_ne, bne_eq_false_iff_eq, ne_eq, not_and, Int.toNat_natCast] at *); (try simp only [Row.cells, Row.wrapped, Row.end_, Cell.kind, Cell.at] at *); (try simp (disch := omega) only [wrapId, toNatAdd, toNatSucc, isAt, reduceCtorEq, or_false, and_true, Bool.and_true, Bool.and_eq_true, Bool.and_eq_false_iff, beq_iff_eq, beq_eq_false_iff_ne, ne_eq, Int.toNat_natCast] at *)) <;> first | omega | assumption | (refine ⟨?_, ?_⟩ <;> assumption)))) nilE))) (by kernel_rfl) rfl rfl
set_option maxHeartbeats 4000000 in
theorem pickA : pickA_T := by
  intro l p hp hl
  exact pV 12 [(0, .v (V.d (D.ref (List.flatMap (Ty.enc markT) l) ((Int.toNat (0 : Int)) * (4 : Nat))))), (1, .v (V.d (mkD (Ty.nth markT l (0 : Nat))))), (3, .l (Ex.exit (0 : Nat)) (stPkx fAh l p (pickAm l p) (List.length l)))] (cE (@pkAL (l) (p) hl) (cP (@loadMark0 (l) ([(Ob.cells [(V.d (D.int IntKind.i64 (ptR p))), (V.d (D.int IntKind.i64 (ptC p)))]), (Ob.cells [(V.d (D.int IntKind.i64 (0 : Int))), (V.d (D.int IntKind.i64 (0 : Int))), (V.d (D.int IntKind.i64 (0 : Int))), (V.d (D.int IntKind.i64 (0 : Int)))])]) hp) (cP (@iaddrMark (l) ((0 : Int)) (by (((try simp only [eq_self, and_true, true_and, Bool.and_true, Bool.true_and, Bool.not_eq_true', Bool.not_eq_false', Bool.and_eq_true, Bool.and_eq_false_iff, decide_eq_true_eq, decide_eq_false_iff_not, beq_iff_eq, beq_eq_false_iff_ne, bne_iff_ne, bne_eq_false_iff_eq, ne_eq, not_and, Int.toNat_natCast] at *); (try simp only [Row.cells, Row.wrapped, Row.end_, Cell.kind, Cell.at] at *); (try simp (disch := omega) only [wrapId, toNatAdd, toNatSucc, isAt, reduceCtorEq, or_false, and_true, Bool.and_true, Bool.and_eq_true, Bool.and_eq_false_iff, beq_iff_eq, beq_eq_false_iff_ne, ne_eq, Int.toNat_natCast] at *)) <;> first | omega | assumption | (refine ⟨?_, ?_⟩ <;> assumption))) (by (((try simp only [eq_self, and_true, true_and, Bool.and_true, Bool.true_and, Bool.not_eq_true', Bool.not_eq_false', Bool.and_eq_true, Bool.and_eq_false_iff, decide_eq_true_eq, decide_eq_false_iff_not, beq_iff_eq, beq_eq_false_iff_ne, bne_iff_ne, bne_eq_false_iff_eq, ne_eq, not_and, Int.toNat_natCast] at *); (try simp only [Row.cells, Row.wrapped, Row.end_, Cell.kind, Cell.at] at *); (try simp (disch := omega) only [wrapId, toNatAdd, toNatSucc, isAt, reduceCtorEq, or_false, and_true, Bool.and_true, Bool.and_eq_true, Bool.and_eq_false_iff, beq_iff_eq, beq_eq_false_iff_ne, ne_eq, Int.toNat_natCast] at *)) <;> first | omega | assumption | (refine ⟨?_, ?_⟩ <;> assumption)))) nilE))) (by kernel_rfl) rfl rfl
set_option maxHeartbeats 4000000 in
theorem rclip0 : rclip0_T := by
  intro rows p hs hm hl
  exact pV 12 [(0, .v (V.d (Ty.slD markT (allMarks rows)))), (3, .v (V.d (D.ref (List.flatMap (Ty.enc markT) (allMarks rows)) ((Int.toNat (0 : Int)) * (4 : Nat))))), (4, .v (V.d (D.agg [(D.int IntKind.i64 (mR (Ty.nth markT (allMarks rows) (0 : Nat)))), (D.int IntKind.i64 (mC (Ty.nth markT (allMarks rows) (0 : Nat))))]))), (6, .l (Ex.exit (0 : Nat)) (stR0x (allMarks rows) p (Prod.fst (best0 (allMarks rows) p)) (Prod.snd (best0 (allMarks rows) p)) (List.length (allMarks rows))))] (cE (@rc0L (allMarks rows) (p) hl) (cP (@loadRMarkP0 (allMarks rows) ([(Ob.cells [(V.d (D.int IntKind.i64 (ptR p))), (V.d (D.int IntKind.i64 (ptC p)))]), (Ob.cells [(V.d (D.int IntKind.i64 (0 : Int))), (V.d (D.int IntKind.i64 (0 : Int)))])]) hm) (cP (@iaddrRMark (allMarks rows) ((0 : Int)) (by (((try simp only [eq_self, and_true, true_and, Bool.and_true, Bool.true_and, Bool.not_eq_true', Bool.not_eq_false', Bool.and_eq_true, Bool.and_eq_false_iff, decide_eq_true_eq, decide_eq_false_iff_not, beq_iff_eq, beq_eq_false_iff_ne, bne_iff_ne, bne_eq_false_iff_eq, ne_eq, not_and, Int.toNat_natCast] at *); (try simp only [Row.cells, Row.wrapped, Row.end_, Cell.kind, Cell.at] at *); (try simp (disch := omega) only [wrapId, toNatAdd, toNatSucc, isAt, reduceCtorEq, or_false, and_true, Bool.and_true, Bool.and_eq_true, Bool.and_eq_false_iff, beq_iff_eq, beq_eq_false_iff_ne, ne_eq, Int.toNat_natCast] at *)) <;> first | omega | assumption | (refine ⟨?_, ?_⟩ <;> assumption))) (by (((try simp only [eq_self, and_true, true_and, Bool.and_true, Bool.true_and, Bool.not_eq_true', Bool.not_eq_false', Bool.and_eq_true, Bool.and_eq_false_iff, decide_eq_true_eq, decide_eq_false_iff_not, beq_iff_eq, beq_eq_false_iff_ne, bne_iff_ne, bne_eq_false_iff_eq, ne_eq, not_and, Int.toNat_natCast] at *); (try simp only [Row.cells, Row.wrapped, Row.end_, Cell.kind, Cell.at] at *); (try simp (disch := omega) only [wrapId, toNatAdd, toNatSucc, isAt, reduceCtorEq, or_false, and_true, Bool.and_true, Bool.and_eq_true, Bool.and_eq_false_iff, beq_iff_eq, beq_eq_false_iff_ne, ne_eq, Int.toNat_natCast] at *)) <;> first | omega | assumption | (refine ⟨?_, ?_⟩ <;> assumption)))) (cC (@rmarks (rows) hs) nilE)))) (by kernel_rfl) rfl rfl
set_option maxHeartbeats 4000000 in
theorem rclipA : rclipA_T := by
  intro rows p hs hm hl hf
  exact pV 12 [(0, .v (V.d (Ty.slD markT (allMarks rows)))), (4, .l (Ex.ret) ({ s := [((6 : Nat), (V.obj (1 : Nat) (0 : Nat)))], h := [(boxP p), (Ob.cells [(V.d (D.int IntKind.i64 (mR (Ty.nth markT (allMarks rows) (Int.toNat (fiA (allMarks rows) p)))))), (V.d (D.int IntKind.i64 (mC (Ty.nth markT (allMarks rows) (Int.toNat (fiA (allMarks rows) p))))))]), (boxM (Ty.nth markT (allMarks rows) (Int.toNat (fiA (allMarks rows) p))))], og := [] }))] (cE (@rcHitL (allMarks rows) (p) hl hf) (cC (@rmarks (rows) hs) nilE)) (by kernel_rfl) rfl rfl
set_option maxHeartbeats 4000000 in
theorem rclipN : rclipN_T := by
  intro rows p hs hm hl hf
  exact (pV (v := V.d (D.agg [(D.int IntKind.i64 (mR (Ty.nth markT (allMarks rows) (Int.toNat (IntKind.wrap IntKind.i64 ((↑(List.length (allMarks rows)) : Int) - (1 : Int))))))), (D.int IntKind.i64 (mC (Ty.nth markT (allMarks rows) (Int.toNat (IntKind.wrap IntKind.i64 ((↑(List.length (allMarks rows)) : Int) - (1 : Int)))))))])) 12 [(0, .v (V.d (Ty.slD markT (allMarks rows)))), (4, .l (Ex.exit (2 : Nat)) (stR1x (allMarks rows) p (List.length (allMarks rows)))), (7, .v (V.d (D.ref (List.flatMap (Ty.enc markT) (allMarks rows)) ((Int.toNat (IntKind.wrap IntKind.i64 ((↑(List.length (allMarks rows)) : Int) - (1 : Int)))) * (4 : Nat))))), (8, .v (V.d (D.agg [(D.int IntKind.i64 (mR (Ty.nth markT (allMarks rows) (Int.toNat (IntKind.wrap IntKind.i64 ((↑(List.length (allMarks rows)) : Int) - (1 : Int))))))), (D.int IntKind.i64 (mC (Ty.nth markT (allMarks rows) (Int.toNat (IntKind.wrap IntKind.i64 ((↑(List.length (allMarks rows)) : Int) - (1 : Int)))))))])))] (cP (@loadRMarkPF (allMarks rows) ([(Ob.cells [(V.d (D.int IntKind.i64 (ptR p))), (V.d (D.int IntKind.i64 (ptC p)))]), (Ob.cells [(V.d (D.int IntKind.i64 (0 : Int))), (V.d (D.int IntKind.i64 (0 : Int)))])]) (Int.toNat (IntKind.wrap IntKind.i64 ((↑(List.length (allMarks rows)) : Int) - (1 : Int)))) (by (((try simp only [eq_self, and_true, true_and, Bool.and_true, Bool.true_and, Bool.not_eq_true', Bool.not_eq_false', Bool.and_eq_true, Bool.and_eq_false_iff, decide_eq_true_eq, decide_eq_false_iff_not, beq_iff_eq, beq_eq_false_iff_ne, bne_iff_ne, bne_eq_false_iff_eq, ne_eq, not_and, Int.toNat_natCast] at *); (try simp only [Row.cells, Row.wrapped, Row.end_, Cell.kind, Cell.at] at *); (try simp (disch := omega) only [wrapId, toNatAdd, toNatSucc, isAt, reduceCtorEq, or_false, and_true, Bool.and_true, Bool.and_eq_true, Bool.and_eq_false_iff, beq_iff_eq, beq_eq_false_iff_ne, ne_eq, Int.toNat_natCast] at *)) <;> first | omega | assumption | (refine ⟨?_, ?_⟩ <;> assumption)))) (cP (@iaddrRMark (allMarks rows) (IntKind.wrap IntKind.i64 ((↑(List.length (allMarks rows)) : Int) - (1 : Int))) (by (((try simp only [eq_self, and_true, true_and, Bool.and_true, Bool.true_and, Bool.not_eq_true', Bool.not_eq_false', Bool.and_eq_true, Bool.and_eq_false_iff, decide_eq_true_eq, decide_eq_false_iff_not, beq_iff_eq, beq_eq_false_iff_ne, bne_iff_ne, bne_eq_false_iff_eq, ne_eq, not_and, Int.toNat_natCast] at *); (try simp only [Row.cells, Row.wrapped, Row.end_, Cell.kind, Cell.at] at *); (try simp (disch := omega) only [wrapId, toNatAdd, toNatSucc, isAt, reduceCtorEq, or_false, and_true, Bool.and_true, Bool.and_eq_true, Bool.and_eq_false_iff, beq_iff_eq, beq_eq_false_iff_ne, ne_eq, Int.toNat_natCast] at *)) <;> first | omega | assumption | (refine ⟨?_, ?_⟩ <;> assumption))) (by (((try simp only [eq_self, and_true, true_and, Bool.and_true, Bool.true_and, Bool.not_eq_true', Bool.not_eq_false', Bool.and_eq_true, Bool.and_eq_false_iff, decide_eq_true_eq, decide_eq_false_iff_not, beq_iff_eq, beq_eq_false_iff_ne, bne_iff_ne, bne_eq_false_iff_eq, ne_eq, not_and, Int.toNat_natCast] at *); (try simp only [Row.cells, Row.wrapped, Row.end_, Cell.kind, Cell.at] at *); (try simp (disch := omega) only [wrapId, toNatAdd, toNatSucc, isAt, reduceCtorEq, or_false, and_true, Bool.and_true, Bool.and_eq_true, Bool.and_eq_false_iff, beq_iff_eq, beq_eq_false_iff_ne, ne_eq, Int.toNat_natCast] at *)) <;> first | omega | assumption | (refine ⟨?_, ?_⟩ <;> assumption)))) (cE (@rcNoL (allMarks rows) (p) hl hf) (cC (@rmarks (rows) hs) nilE)))) (by kernel_rfl) rfl rfl).to (by ((try simp (disch := omega) only [wrapId, toNatAdd, toNatSucc, goesOn, Row.wrapped] at *); (try simp only [Int.toNat_natCast, beq_iff_eq, beq_eq_false_iff_ne, bne_iff_ne, bne_eq_false_iff_eq, ne_eq, Int.natCast_eq_zero, Int.natCast_inj, Row.cells] at *); first | (simp (disch := omega) [Ty.enc, stopAt, endMark, lineMarks, lineM, lineA, lineW, Row.end_, inA, inW, inM, mk, Cell.kind, Cell.at, Row.cells, wrapId, mP, isAt, toNatPred, toNatAdd, toNatSucc, goesOn, ltF, ltT, Row.wrapped, Ty.slD, *]; done) | (subst_vars; simp (disch := omega) [Ty.enc, stopAt, endMark, lineMarks, lineM, lineA, lineW, Row.end_, inA, inW, inM, mk, Cell.kind, Cell.at, Row.cells, wrapId, mP, isAt, toNatPred, toNatAdd, toNatSucc, goesOn, ltF, ltT, Row.wrapped, Ty.slD, *]; done)))
set_option maxHeartbeats 4000000 in
theorem clip0 : clip0_T := by
  intro rows p hs hr hr2 hm hl
  have h0 : ((↑(List.length rows) : Int) == (0 : Int)) = false := by (((try simp only [eq_self, and_true, true_and, Bool.and_true, Bool.true_and, Bool.not_eq_true', Bool.not_eq_false', Bool.and_eq_true, Bool.and_eq_false_iff, decide_eq_true_eq, decide_eq_false_iff_not, beq_iff_eq, beq_eq_false_iff_ne, bne_iff_ne, bne_eq_false_iff_eq, ne_eq, not_and, Int.toNat_natCast] at *); (try simp only [Row.cells, Row.wrapped, Row.end_, Cell.kind, Cell.at] at *); (try simp (disch := omega) only [wrapId, toNatAdd, toNatSucc, isAt, reduceCtorEq, or_false, and_true, Bool.and_true, Bool.and_eq_true, Bool.and_eq_false_iff, beq_iff_eq, beq_eq_false_iff_ne, ne_eq, Int.toNat_natCast] at *)) <;> first | omega | assumption | (refine ⟨?_, ?_⟩ <;> assumption))
  exact pV 12 [(2, bf), (9, .v (V.d (Ty.slD markT (allMarks rows)))), (13, .v (V.d (mkD (pickBm (allMarks rows) p))))] (cC (@pickB (allMarks rows) (p) hm hl) (cC (@marks (rows) hs) (cP h0 nilE))) (by kernel_rfl) rfl rfl
set_option maxHeartbeats 4000000 in
theorem clipE : clipE_T := by
  intro rows p b hr
  have h0 : ((↑(List.length rows) : Int) == (0 : Int)) = true := by (((try simp only [eq_self, and_true, true_and, Bool.and_true, Bool.true_and, Bool.not_eq_true', Bool.not_eq_false', Bool.and_eq_true, Bool.and_eq_false_iff, decide_eq_true_eq, decide_eq_false_iff_not, beq_iff_eq, beq_eq_false_iff_ne, bne_iff_ne, bne_eq_false_iff_eq, ne_eq, not_and, Int.toNat_natCast] at *); (try simp only [Row.cells, Row.wrapped, Row.end_, Cell.kind, Cell.at] at *); (try simp (disch := omega) only [wrapId, toNatAdd, toNatSucc, isAt, reduceCtorEq, or_false, and_true, Bool.and_true, Bool.and_eq_true, Bool.and_eq_false_iff, beq_iff_eq, beq_eq_false_iff_ne, ne_eq, Int.toNat_natCast] at *)) <;> first | omega | assumption | (refine ⟨?_, ?_⟩ <;> assumption))
  exact pV 12 [(2, bt)] (cP h0 nilE) (by kernel_rfl) rfl rfl
set_option maxHeartbeats 4000000 in
theorem clipX : clipX_T := by
  intro rows p b hr hr2 hb hc
  have h0 : ((↑(List.length rows) : Int) == (0 : Int)) = false := by (((try simp only [eq_self, and_true, true_and, Bool.and_true, Bool.true_and, Bool.not_eq_true', Bool.not_eq_false', Bool.and_eq_true, Bool.and_eq_false_iff, decide_eq_true_eq, decide_eq_false_iff_not, beq_iff_eq, beq_eq_false_iff_ne, bne_iff_ne, bne_eq_false_iff_eq, ne_eq, not_and, Int.toNat_natCast] at *); (try simp only [Row.cells, Row.wrapped, Row.end_, Cell.kind, Cell.at] at *); (try simp (disch := omega) only [wrapId, toNatAdd, toNatSucc, isAt, reduceCtorEq, or_false, and_true, Bool.and_true, Bool.and_eq_true, Bool.and_eq_false_iff, beq_iff_eq, beq_eq_false_iff_ne, ne_eq, Int.toNat_natCast] at *)) <;> first | omega | assumption | (refine ⟨?_, ?_⟩ <;> assumption))
  have h1 : (b == (0 : Int)) = false := by (((try simp only [eq_self, and_true, true_and, Bool.and_true, Bool.true_and, Bool.not_eq_true', Bool.not_eq_false', Bool.and_eq_true, Bool.and_eq_false_iff, decide_eq_true_eq, decide_eq_false_iff_not, beq_iff_eq, beq_eq_false_iff_ne, bne_iff_ne, bne_eq_false_iff_eq, ne_eq, not_and, Int.toNat_natCast] at *); (try simp only [Row.cells, Row.wrapped, Row.end_, Cell.kind, Cell.at] at *); (try simp (disch := omega) only [wrapId, toNatAdd, toNatSucc, isAt, reduceCtorEq, or_false, and_true, Bool.and_true, Bool.and_eq_true, Bool.and_eq_false_iff, beq_iff_eq, beq_eq_false_iff_ne, ne_eq, Int.toNat_natCast] at *)) <;> first | omega | assumption | (refine ⟨?_, ?_⟩ <;> assumption))
  have h2 : (!(b == (1 : Int))) = true := by (((try simp only [eq_self, and_true, true_and, Bool.and_true, Bool.true_and, Bool.not_eq_true', Bool.not_eq_false', Bool.and_eq_true, Bool.and_eq_false_iff, decide_eq_true_eq, decide_eq_false_iff_not, beq_iff_eq, beq_eq_false_iff_ne, bne_iff_ne, bne_eq_false_iff_eq, ne_eq, not_and, Int.toNat_natCast] at *); (try simp only [Row.cells, Row.wrapped, Row.end_, Cell.kind, Cell.at] at *); (try simp (disch := omega) only [wrapId, toNatAdd, toNatSucc, isAt, reduceCtorEq, or_false, and_true, Bool.and_true, Bool.and_eq_true, Bool.and_eq_false_iff, beq_iff_eq, beq_eq_false_iff_ne, ne_eq, Int.toNat_natCast] at *)) <;> first | omega | assumption | (refine ⟨?_, ?_⟩ <;> assumption))
  exact pV 12 [(2, bf), (5, bf), (6, bf), (8, bf), (9, bt)] (cP h2 (cP h1 (cP h1 (cP h1 (cP h0 nilE))))) (by kernel_rfl) rfl rfl
end Go.Proofs.Ytaobccodpdmieaa.Points
/- Pv: a context above another one: its functions answer what is known of them below, and some more are answered by contracts. -/
set_option linter.unusedSimpArgs false
set_option linter.unusedVariables false
namespace Go.Proofs.Ytaobccodpdmieaa.Pv.G
open Go Pv

theorem Ans.uniq {X : Ctx} {f : FuncId} {a : List V} {v u : V} (h : Ans X f a v) (k : Ans X f a u) : v = u := by
  obtain ⟨K, h⟩ := h
  obtain ⟨L, k⟩ := k
  have h1 := h (K + L) (by omega)
  have h2 := k (K + L) (by omega)
  exact Option.some.inj (h1.symm.trans h2)

open Classical in
/-- What is known below. -/
noncomputable def upF (X : Ctx) (f : FuncId) (ds : List D) : Option V :=
  if h : ∃ y : V, y.pure = true ∧ Ans X f (ds.map V.d) y then some (Classical.choose h) else none

/-- 'off': functions that are run. -/
noncomputable def up (X : Ctx) (off : FuncId → Bool) (extra : FuncId → Option (List D → Option V)) : Ctx :=
  ⟨X.P, X.glob, fun f => if off f = true then none else match extra f with
    | some F => some F
    | none => some (upF X f), fun _ => false, X.ints, fun _ => none⟩

theorem toDs_map (ds : List D) : toDs (ds.map V.d) = some ds := by
  induction ds with
  | nil => rfl
  | cons d ds ih => simp only [List.map_cons, toDs, V.toD, ih]

theorem pure_map (ds : List D) : (ds.map V.d).all V.pure = true := by
  induction ds with
  | nil => rfl
  | cons d ds ih => simp only [List.map_cons, List.all_cons, ih]; rfl

theorem ansOfExt {X : Ctx} {f : FuncId} {F : List D → Option V} {ds : List D} {v : V} (hF : X.ext f = some F) (hv : F ds = some v) (hp : v.pure = true) : Ans X f (ds.map V.d) v :=
  ⟨1, fun k hk => by
    obtain ⟨k, rfl⟩ : ∃ x, k = x + 1 := ⟨k - 1, by omega⟩
    show (match runP X (callN X FUEL k) FUEL f (ds.map V.d) with | some (v, _) => if v.pure then some v else none | none => none) = some v
    unfold runP
    rw [hF]
    simp only [toDs_map, hv, Option.map_some, hp, if_true]⟩

theorem ansUp {X : Ctx} {off : FuncId → Bool} {extra : FuncId → Option (List D → Option V)} {f : FuncId} {ds : List D} {v : V} (ho : off f = false) (he : extra f = none) (hv : v.pure = true) (h : Ans X f (ds.map V.d) v) : Ans (up X off extra) f (ds.map V.d) v := by
  refine ansOfExt (F := upF X f) ?_ ?_ hv
  · simp only [up, ho, he, Bool.false_eq_true, if_false]
  · unfold upF
    have hx : ∃ y : V, y.pure = true ∧ Ans X f (ds.map V.d) y := ⟨v, hv, h⟩
    rw [dif_pos hx, (Classical.choose_spec hx).2.uniq h]

theorem RepV.ctx {X Y : Ctx} (hP : X.P = Y.P) {w : World} {g : Gh} {p : Own} {v : Value} {x : V} (r : RepV X w g p v x) : RepV Y w g p v x := by
  induction r with
  | d p v x r => exact .d p v x r
  | tail p E cells n b c cur z vals hz hz0 hb hn hm hcur hcl he ho hp hv hr => exact .tail p E cells n b c cur z vals (by rw [← hP]; exact hz) hz0 hb hn hm hcur hcl he ho hp hv hr
  | tail0 p E => exact .tail0 p E
  | full p b o cells n r => exact .full p b o cells n r
  | obj p id off b r => exact .obj p id off b r
  | osl p id off n c b r hn => exact .osl p id off n c b r hn
  | clo p fn va vb a b hla hlb _ _ iha ihb => exact .clo p fn va vb a b hla hlb iha ihb
  | agg p vals vs hl _ ih => exact .agg p vals vs hl ih
  | tup p vals vs hl _ ih => exact .tup p vals vs hl ih
  | mp p id b r => exact .mp p id b r
  | it p id b r => exact .it p id b r

theorem iaddrV_ctx {X Y : Ctx} (h : X.P = Y.P) (t : TypeId) (x i : V) : iaddrV X t x i = iaddrV Y t x i := by
  unfold iaddrV indexAddrOp
  rw [h]
theorem loadV_ctx {X Y : Ctx} (h : X.P = Y.P) (hp : List Ob) (t : TypeId) (p : V) : loadV X hp t p = loadV Y hp t p := by
  unfold loadV loadOp
  rw [h]
theorem binV_ctx {X Y : Ctx} (h : X.P = Y.P) (op : BinOp) (t : TypeId) (x y : V) : binV X op t x y = binV Y op t x y := by
  unfold binV valOp
  simp only
  unfold pureOp
  rw [h]

theorem ptv_of {X : Ctx} {w : World} {g : Gh} {vals : List Value} {ds : List D} (h : PtD w g.e vals ds) : PtV X w g vals (ds.map V.d) := by
  refine ⟨by simp [h.1], fun j v x h1 h2 => ?_⟩
  rw [List.getElem?_map] at h2
  cases hd : ds[j]? with
  | none => rw [hd] at h2; cases h2
  | some d => rw [hd] at h2; cases h2; exact .d _ _ _ (h.2 j v d h1 hd)

/-- What is asked of one such function. -/
def ExtOk1 (X : Ctx) (f : FuncId) (F : List D → Option V) : Prop :=
  ∀ ds y, F ds = some y → ∀ (w : World) (g : Gh) (vargs : List Value), Fresh g w → GlobOk X w g → PtD w g.e vargs ds → ∀ p, IsPos p →
    ∃ fn, X.P.funcs[f]? = some fn ∧ (fn.name == "runtime.NumGoroutine") = false ∧ ((∃ c, fn.body = some c) ∧ Calls X.P f ⟨vargs⟩ w fun E w' => ∃ v g', E = .returned v ∧ Keep g w g' w' ∧ RepV X w' g' p v y)

theorem extOk_up {X : Ctx} {off : FuncId → Bool} {extra : FuncId → Option (List D → Option V)} (hfz : ∀ t, X.frz t = false) (hx : ExtOk X) (hxp : ExtPure X) (hxi : ExtIOk X) (he : ∀ f F, extra f = some F → ExtOk1 X f F) : ExtOk (up X off extra) := by
  intro f F hF ds y hy w g vargs hf hg hp p hpos
  have hg' : GlobOk X w g := hg
  simp only [up] at hF
  split at hF
  · cases hF
  · split at hF
    · rename_i F' hF'
      cases hF
      obtain ⟨fn, k1, k2, k3, k4⟩ := he f _ hF' ds y hy w g vargs hf hg' hp p hpos
      exact ⟨fn, k1, k2, k3, k4.mono fun E w' ⟨v, g', a, b, c⟩ => ⟨v, g', a, b, RepV.ctx (X := X) (Y := up X off extra) rfl c⟩⟩
    · cases hF
      unfold upF at hy
      split at hy
      · rename_i h
        cases hy
        obtain ⟨h1, K, h2⟩ := Classical.choose_spec h
        obtain ⟨fn, k1, k2, k3, k4⟩ := (callN_ok hfz hx hxp hxi FUEL K).1 f (ds.map V.d) _ (h2 K (Nat.le_refl K)) (pure_map ds) w g vargs hf hg' (ptv_of hp) p hpos
        exact ⟨fn, k1, k2, k3, k4.mono fun E w' ⟨v, g', a, b, c⟩ => ⟨v, g', a, b, RepV.ctx (X := X) (Y := up X off extra) rfl c⟩⟩
      · cases hy

theorem extPure_up {X : Ctx} {off : FuncId → Bool} {extra : FuncId → Option (List D → Option V)} (he : ∀ f F, extra f = some F → ∀ ds y, F ds = some y → y.pure = true) : ExtPure (up X off extra) := by
  intro f F hF ds y hy
  simp only [up] at hF
  split at hF
  · cases hF
  · split at hF
    · rename_i F' hF'
      cases hF
      exact he f _ hF' ds y hy
    · cases hF
      unfold upF at hy
      split at hy
      · rename_i h
        cases hy
        exact (Classical.choose_spec h).1
      · cases hy

theorem extIOk_up {X : Ctx} {off : FuncId → Bool} {extra : FuncId → Option (List D → Option V)} : ExtIOk (up X off extra) := fun f F h => by cases h
end Go.Proofs.Ytaobccodpdmieaa.Pv.G
/- Points: the context in which Clip to the right answers; rules there; statements of the law PointsClips. -/
set_option linter.unusedVariables false
set_option linter.unusedSimpArgs false
set_option maxRecDepth 100000
namespace Go.Proofs.Ytaobccodpdmieaa.Points
open Go Pv G
/- the plain law -/
theorem nth_rev (l : List Mark) (i : Nat) (hi : i < l.length) : markT.nth l.reverse i = markT.nth l (l.length - 1 - i) := by
  unfold Ty.nth
  rw [List.getD_eq_getElem?_getD, List.getD_eq_getElem?_getD, List.getElem?_reverse hi]
theorem pkB_rc0 (l : List Mark) (p : Point) : ∀ f i b, rc0F l p f i (mR b) (mC b) = (mR (pkB l p f i b), mC (pkB l p f i b))
  | 0, i, b => rfl
  | f + 1, i, b => by
    simp only [rc0F, pkB]
    by_cases h : isBh (markT.nth l i) p
    · rw [if_pos h, if_pos (show _ from h.imp id fun ⟨a, b⟩ => ⟨a.symm, b⟩)]
      exact pkB_rc0 l p f (i + 1) b
    · rw [if_neg h, if_neg (fun x => h (x.imp id fun ⟨a, b⟩ => ⟨a.symm, b⟩))]
      exact pkB_rc0 l p f (i + 1) _
theorem best0_pick (l : List Mark) (p : Point) : best0 l p = (mR (pickBm l p), mC (pickBm l p)) := pkB_rc0 l p _ _ _
def fst (l : List Mark) (p : Point) : Nat → Option Nat
  | 0 => none
  | f + 1 => match fst l p f with
    | some k => some k
    | none => if isAh (markT.nth l f) p then none else some f
theorem pkA_rev (l : List Mark) (p : Point) : ∀ f i b, f + i = l.length → pkA l.reverse p f i b = (match fst l p f with | some k => markT.nth l k | none => b)
  | 0, i, b, _ => rfl
  | f + 1, i, b, h => by
    simp only [pkA, fst]
    rw [pkA_rev l p f (i + 1) _ (by omega), nth_rev l i (by omega), show l.length - 1 - i = f by omega]
    cases fst l p f with
    | some k => rfl
    | none =>
      simp only
      by_cases hc : isAh (markT.nth l f) p
      · rw [if_pos hc, if_pos hc]
      · rw [if_neg hc, if_neg hc]
def toOpt (z : Int) : Option Nat := if z < 0 then none else some z.toNat
theorem fst_fi (l : List Mark) (p : Point) : ∀ f i, f + i = l.length → fst l p l.length = (match fst l p i with | some k => some k | none => toOpt (fiF l p f i))
  | 0, i, h => by
    obtain rfl : i = l.length := by omega
    cases fst l p l.length with
    | some k => rfl
    | none => rfl
  | f + 1, i, h => by
    have e := fst_fi l p f (i + 1) (by omega)
    rw [e]
    simp only [fst]
    cases fst l p i with
    | some k => rfl
    | none =>
      simp only
      by_cases hc : isAh (markT.nth l i) p
      · have e2 : fiF l p (f + 1) i = fiF l p f (i + 1) := if_pos hc
        rw [if_pos hc, e2]
      · have e2 : fiF l p (f + 1) i = (i : Int) := if_neg hc
        rw [if_neg hc, e2]
        show some i = toOpt (i : Int)
        unfold toOpt
        rw [if_neg (by omega)]
        simp
theorem pickA_hit (l : List Mark) (p : Point) (h : 0 ≤ fiA l p) : pickAm l.reverse p = markT.nth l (fiA l p).toNat := by
  unfold pickAm
  rw [List.length_reverse, pkA_rev l p l.length 0 _ (by omega), fst_fi l p l.length 0 (by omega)]
  simp only [fst]
  unfold fiA at h ⊢
  unfold toOpt
  rw [if_neg (by omega)]
theorem pickA_no (l : List Mark) (p : Point) (h : fiA l p < 0) (h1 : 1 ≤ l.length) : pickAm l.reverse p = markT.nth l (l.length - 1) := by
  unfold pickAm
  rw [List.length_reverse, pkA_rev l p l.length 0 _ (by omega), fst_fi l p l.length 0 (by omega)]
  simp only [fst]
  unfold fiA at h
  unfold toOpt
  rw [if_pos h]
  exact nth_rev l 0 h1
theorem marks_ne (rows : List Row) (h : 1 ≤ rows.length) : 1 ≤ (allMarks rows).length := by
  rw [marks_same]
  unfold refMarks
  obtain ⟨m, hm⟩ : ∃ m, rows.length = m + 1 := ⟨rows.length - 1, by omega⟩
  rw [hm]
  simp only [refFold, refStep]
  rw [if_pos (.inl hm.symm)]
  simp
/- the context -/
abbrev FPC : Nat := 7
def q1 (rows : List Row) (p : Point) : Mark := pickAm (allMarks rows).reverse p
def clipQ (rows : List Row) (p : Point) (ds : List D) : Prop := ds = [rowT.slD rows, ptD p, .int .i64 1] ∧ smallR rows ∧ 1 ≤ rows.length ∧ (allMarks rows).length < 100000000
open Classical in
noncomputable def extClip (rows : List Row) (p : Point) (ds : List D) : Option V :=
  if clipQ rows p ds then some (.d (.tup [.agg [.int .i64 (mR (q1 rows p)), .int .i64 (mC (q1 rows p))], .int .i64 0])) else upF X0 FCl ds
def offPC (f : FuncId) : Bool := f == FPC
noncomputable def exPC (rows : List Row) (p : Point) (f : FuncId) : Option (List D → Option V) := if f = FCl then some (extClip rows p) else none
noncomputable def X1 (rows : List Row) (p : Point) : Ctx := up X0 offPC (exPC rows p)
theorem ansUpF {X : Ctx} {f : FuncId} {ds : List D} {v : V} (hv : v.pure = true) (h : Ans X f (ds.map V.d) v) : upF X f ds = some v := by
  unfold upF
  have hx : ∃ y : V, y.pure = true ∧ Ans X f (ds.map V.d) y := ⟨v, hv, h⟩
  rw [dif_pos hx, (Classical.choose_spec hx).2.uniq h]
theorem clipUp (rows : List Row) (p : Point) (ds : List D) (v : V) (hv : v.pure = true) (hq : ¬ clipQ rows p ds) (h : Ans X0 FCl (ds.map V.d) v) : Ans (X1 rows p) FCl (ds.map V.d) v :=
  ansOfExt (F := extClip rows p) (ds := ds) rfl (by unfold extClip; rw [if_neg hq]; exact ansUpF hv h) hv
/- rules -/
def oneU_T : Prop := ∀ (rows : List Row) (p : Point), Ans (X1 rows p) 11 [] (.d (.bool true))
theorem oneU : oneU_T := fun rows p => ansUp (ds := []) rfl rfl rfl one
def longNoU_T : Prop := ∀ (rows : List Row) (p : Point) (hr : okR rows) (hl : lenTo rows rows.length ≤ 300), Ans (X1 rows p) FLo [.d (rowT.slD rows)] (.d (.bool false))
theorem longNoU : longNoU_T := fun rows p hr hl => ansUp (ds := [rowT.slD rows]) rfl rfl rfl (longNo rows hr hl)
def longYesU_T : Prop := ∀ (rows : List Row) (p : Point) (hr : okR rows) (hl : 300 < lenTo rows rows.length), Ans (X1 rows p) FLo [.d (rowT.slD rows)] (.d (.bool true))
theorem longYesU : longYesU_T := fun rows p hr hl => ansUp (ds := [rowT.slD rows]) rfl rfl rfl (longYes rows hr hl)
def clipEU_T : Prop := ∀ (rows : List Row) (p : Point) (b : Int) (hr : rows.length = 0), Ans (X1 rows p) FCl [.d (rowT.slD rows), .d (ptD p), .d (.int .i64 b)] (.d (.tup [.agg [.int .i64 0, .int .i64 0], .int .i64 6]))
theorem clipEU : clipEU_T := fun rows p b hr => clipUp rows p [rowT.slD rows, ptD p, .int .i64 b] _ rfl (fun h => by have := h.2.2.1; omega) (clipE rows p b hr)
def clipXU_T : Prop := ∀ (rows : List Row) (p : Point) (b : Int) (hr : 1 ≤ rows.length) (hr2 : rows.length ≤ 900) (hb : b ≠ 0) (hc : b ≠ 1), Ans (X1 rows p) FCl [.d (rowT.slD rows), .d (ptD p), .d (.int .i64 b)] (.d (.tup [.agg [.int .i64 0, .int .i64 0], .int .i64 1]))
theorem clipXU : clipXU_T := fun rows p b hr hr2 hb hc => clipUp rows p [rowT.slD rows, ptD p, .int .i64 b] _ rfl (fun h => by
  have := h.1
  simp only [List.cons.injEq, D.int.injEq, and_true, true_and] at this
  exact hc this) (clipX rows p b hr hr2 hb hc)
def clip0U_T : Prop := ∀ (rows : List Row) (p : Point) (hs : smallR rows) (hr : 1 ≤ rows.length) (hl : (allMarks rows).length < 100000000), Ans (X1 rows p) FCl [.d (rowT.slD rows), .d (ptD p), .d (.int .i64 0)] (.d (.tup [.agg [.int .i64 (best0 (allMarks rows) p).1, .int .i64 (best0 (allMarks rows) p).2], .int .i64 0]))
theorem clip0U : clip0U_T := fun rows p hs hr hl => by
  rw [best0_pick]
  exact clipUp rows p [rowT.slD rows, ptD p, .int .i64 0] _ rfl (fun h => by
    have := h.1
    simp at this) (clip0 rows p hs hr hs.1 (marks_ne rows hr) hl)
def clip1U_T : Prop := ∀ (rows : List Row) (p : Point) (hs : smallR rows) (hr : 1 ≤ rows.length) (hl : (allMarks rows).length < 100000000), Ans (X1 rows p) FCl [.d (rowT.slD rows), .d (ptD p), .d (.int .i64 1)] (.d (.tup [.agg [.int .i64 (mR (q1 rows p)), .int .i64 (mC (q1 rows p))], .int .i64 0]))
theorem clip1U : clip1U_T := fun rows p hs hr hl => ansOfExt (F := extClip rows p) (ds := [rowT.slD rows, ptD p, .int .i64 1]) rfl (by unfold extClip; rw [if_pos ⟨rfl, hs, hr, hl⟩]) rfl
def rclip0U_T : Prop := ∀ (rows : List Row) (p : Point) (hs : smallR rows) (hm : 1 ≤ (allMarks rows).length) (hl : (allMarks rows).length < 100000000), Ans (X1 rows p) FRC [.d (rowT.slD rows), .d (ptD p), .d (.int .i64 0)] (.d (.agg [.int .i64 (best0 (allMarks rows) p).1, .int .i64 (best0 (allMarks rows) p).2]))
theorem rclip0U : rclip0U_T := fun rows p hs hm hl => ansUp (ds := [rowT.slD rows, ptD p, .int .i64 0]) rfl rfl rfl (rclip0 rows p hs hm hl)
def rclip1U_T : Prop := ∀ (rows : List Row) (p : Point) (hs : smallR rows) (hm : 1 ≤ (allMarks rows).length) (hl : (allMarks rows).length < 100000000), Ans (X1 rows p) FRC [.d (rowT.slD rows), .d (ptD p), .d (.int .i64 1)] (.d (.agg [.int .i64 (mR (q1 rows p)), .int .i64 (mC (q1 rows p))]))
theorem rclip1U : rclip1U_T := fun rows p hs hm hl => ansUp (ds := [rowT.slD rows, ptD p, .int .i64 1]) rfl rfl rfl (by
  unfold q1
  by_cases hf : 0 ≤ fiA (allMarks rows) p
  · rw [pickA_hit _ _ hf]
    exact rclipA rows p hs hm hl hf
  · rw [pickA_no _ _ (by omega) hm]
    exact rclipN rows p hs hm hl (by omega))
def ptEqU_T : Prop := ∀ (rows : List Row) (p : Point) (a b : Int), binV (X1 rows p) .eql 31 (.d (.agg [.int .i64 a, .int .i64 b])) (.d (.agg [.int .i64 a, .int .i64 b])) = some (.d (.bool true))
theorem ptEqU : ptEqU_T := fun rows p a b => by
  have e : binV X0 .eql 31 (.d (.agg [.int .i64 a, .int .i64 b])) (.d (.agg [.int .i64 a, .int .i64 b])) = some (.d (.bool ((a == a) && ((b == b) && true)))) := by kernel_rfl
  refine (binV_ctx (X := X1 rows p) (Y := X0) rfl _ _ _ _).trans (e.trans ?_)
  simp
/- the law -/
def clipsL_T : Prop := ∀ (rows : List Row) (p : Point) (b : Int) (hr : okR rows) (hl : 300 < lenTo rows rows.length), Ans (X1 rows p) FPC [.d (rowT.slD rows), .d (ptD p), .d (.int .i64 b)] (.d (.bool true))
def clipsE_T : Prop := ∀ (rows : List Row) (p : Point) (b : Int) (hr : okR rows) (hl : lenTo rows rows.length ≤ 300) (hn : rows.length = 0), Ans (X1 rows p) FPC [.d (rowT.slD rows), .d (ptD p), .d (.int .i64 b)] (.d (.bool true))
def clipsX_T : Prop := ∀ (rows : List Row) (p : Point) (b : Int) (hr : okR rows) (hl : lenTo rows rows.length ≤ 300) (hn : 1 ≤ rows.length) (hr2 : rows.length ≤ 900) (hb : b ≠ 0) (hc : b ≠ 1), Ans (X1 rows p) FPC [.d (rowT.slD rows), .d (ptD p), .d (.int .i64 b)] (.d (.bool true))
def clips0_T : Prop := ∀ (rows : List Row) (p : Point) (hr : okR rows) (hl : lenTo rows rows.length ≤ 300) (hs : smallR rows) (hn : 1 ≤ rows.length) (hm : 1 ≤ (allMarks rows).length) (hk : (allMarks rows).length < 100000000) (hr2 : rows.length ≤ 900), Ans (X1 rows p) FPC [.d (rowT.slD rows), .d (ptD p), .d (.int .i64 0)] (.d (.bool true))
def clips1_T : Prop := ∀ (rows : List Row) (p : Point) (hr : okR rows) (hl : lenTo rows rows.length ≤ 300) (hs : smallR rows) (hn : 1 ≤ rows.length) (hm : 1 ≤ (allMarks rows).length) (hk : (allMarks rows).length < 100000000) (hr2 : rows.length ≤ 900), Ans (X1 rows p) FPC [.d (rowT.slD rows), .d (ptD p), .d (.int .i64 1)] (.d (.bool true))
end Go.Proofs.Ytaobccodpdmieaa.Points
/- Points: paths, printed by a program of mine. -/
set_option maxRecDepth 100000
set_option linter.unusedSimpArgs false
set_option linter.unusedVariables false
namespace Go.Proofs.Ytaobccodpdmieaa.Points
open Go Pv G
set_option maxHeartbeats 4000000 in
theorem clipsL : clipsL_T := by
  intro rows p b hr hl
  exact pV 12 [(0, .v (V.d (D.bool true))), (2, .v (V.d (D.bool true)))] (cC (@oneU (rows) (p)) (cC (@longYesU (rows) (p) hr hl) nilE)) (by kernel_rfl) rfl rfl
set_option maxHeartbeats 4000000 in
theorem clipsE : clipsE_T := by
  intro rows p b hr hl hn
  have h0 : ((↑(List.length rows) : Int) == (0 : Int)) = true := by (((try simp only [eq_self, and_true, true_and, Bool.and_true, Bool.true_and, Bool.not_eq_true', Bool.not_eq_false', Bool.and_eq_true, Bool.and_eq_false_iff, decide_eq_true_eq, decide_eq_false_iff_not, beq_iff_eq, beq_eq_false_iff_ne, bne_iff_ne, bne_eq_false_iff_eq, ne_eq, not_and, Int.toNat_natCast] at *); (try simp only [Row.cells, Row.wrapped, Row.end_, Cell.kind, Cell.at] at *); (try simp (disch := omega) only [wrapId, toNatAdd, toNatSucc, isAt, reduceCtorEq, or_false, and_true, Bool.and_true, Bool.and_eq_true, Bool.and_eq_false_iff, beq_iff_eq, beq_eq_false_iff_ne, ne_eq, Int.toNat_natCast] at *)) <;> first | omega | assumption | (refine ⟨?_, ?_⟩ <;> assumption))
  exact pV 12 [(0, .v (V.d (D.bool false))), (3, .v (V.d (D.tup [(D.agg [(D.int IntKind.i64 (0 : Int)), (D.int IntKind.i64 (0 : Int))]), (D.int IntKind.i64 (6 : Int))]))), (6, bt), (12, .v (V.d (D.bool true))), (15, .v (V.d (D.bool true)))] (cC (@oneU (rows) (p)) (cP (@ptEqU (rows) (p) ((0 : Int)) ((0 : Int))) (cP h0 (cC (@clipEU (rows) (p) (b) hn) (cC (@longNoU (rows) (p) hr hl) nilE))))) (by kernel_rfl) rfl rfl
set_option maxHeartbeats 4000000 in
theorem clipsX : clipsX_T := by
  intro rows p b hr hl hn hr2 hb hc
  have h0 : ((↑(List.length rows) : Int) == (0 : Int)) = false := by (((try simp only [eq_self, and_true, true_and, Bool.and_true, Bool.true_and, Bool.not_eq_true', Bool.not_eq_false', Bool.and_eq_true, Bool.and_eq_false_iff, decide_eq_true_eq, decide_eq_false_iff_not, beq_iff_eq, beq_eq_false_iff_ne, bne_iff_ne, bne_eq_false_iff_eq, ne_eq, not_and, Int.toNat_natCast] at *); (try simp only [Row.cells, Row.wrapped, Row.end_, Cell.kind, Cell.at] at *); (try simp (disch := omega) only [wrapId, toNatAdd, toNatSucc, isAt, reduceCtorEq, or_false, and_true, Bool.and_true, Bool.and_eq_true, Bool.and_eq_false_iff, beq_iff_eq, beq_eq_false_iff_ne, ne_eq, Int.toNat_natCast] at *)) <;> first | omega | assumption | (refine ⟨?_, ?_⟩ <;> assumption))
  have h1 : (b != (0 : Int)) = true := by (((try simp only [eq_self, and_true, true_and, Bool.and_true, Bool.true_and, Bool.not_eq_true', Bool.not_eq_false', Bool.and_eq_true, Bool.and_eq_false_iff, decide_eq_true_eq, decide_eq_false_iff_not, beq_iff_eq, beq_eq_false_iff_ne, bne_iff_ne, bne_eq_false_iff_eq, ne_eq, not_and, Int.toNat_natCast] at *); (try simp only [Row.cells, Row.wrapped, Row.end_, Cell.kind, Cell.at] at *); (try simp (disch := omega) only [wrapId, toNatAdd, toNatSucc, isAt, reduceCtorEq, or_false, and_true, Bool.and_true, Bool.and_eq_true, Bool.and_eq_false_iff, beq_iff_eq, beq_eq_false_iff_ne, ne_eq, Int.toNat_natCast] at *)) <;> first | omega | assumption | (refine ⟨?_, ?_⟩ <;> assumption))
  have h2 : (b != (1 : Int)) = true := by (((try simp only [eq_self, and_true, true_and, Bool.and_true, Bool.true_and, Bool.not_eq_true', Bool.not_eq_false', Bool.and_eq_true, Bool.and_eq_false_iff, decide_eq_true_eq, decide_eq_false_iff_not, beq_iff_eq, beq_eq_false_iff_ne, bne_iff_ne, bne_eq_false_iff_eq, ne_eq, not_and, Int.toNat_natCast] at *); (try simp only [Row.cells, Row.wrapped, Row.end_, Cell.kind, Cell.at] at *); (try simp (disch := omega) only [wrapId, toNatAdd, toNatSucc, isAt, reduceCtorEq, or_false, and_true, Bool.and_true, Bool.and_eq_true, Bool.and_eq_false_iff, beq_iff_eq, beq_eq_false_iff_ne, ne_eq, Int.toNat_natCast] at *)) <;> first | omega | assumption | (refine ⟨?_, ?_⟩ <;> assumption))
  exact pV 12 [(0, .v (V.d (D.bool false))), (3, .v (V.d (D.tup [(D.agg [(D.int IntKind.i64 (0 : Int)), (D.int IntKind.i64 (0 : Int))]), (D.int IntKind.i64 (1 : Int))]))), (6, bf), (8, bt), (9, bt), (11, bt), (12, bt), (18, .v (V.d (D.bool true))), (21, .v (V.d (D.bool true)))] (cC (@oneU (rows) (p)) (cP (@ptEqU (rows) (p) ((0 : Int)) ((0 : Int))) (cP h2 (cP h1 (cP h1 (cP h1 (cP h0 (cC (@clipXU (rows) (p) (b) hn hr2 hb hc) (cC (@longNoU (rows) (p) hr hl) nilE))))))))) (by kernel_rfl) rfl rfl
set_option maxHeartbeats 4000000 in
theorem clips0 : clips0_T := by
  intro rows p hr hl hs hn hm hk hr2
  have h0 : ((↑(List.length rows) : Int) == (0 : Int)) = false := by (((try simp only [eq_self, and_true, true_and, Bool.and_true, Bool.true_and, Bool.not_eq_true', Bool.not_eq_false', Bool.and_eq_true, Bool.and_eq_false_iff, decide_eq_true_eq, decide_eq_false_iff_not, beq_iff_eq, beq_eq_false_iff_ne, bne_iff_ne, bne_eq_false_iff_eq, ne_eq, not_and, Int.toNat_natCast] at *); (try simp only [Row.cells, Row.wrapped, Row.end_, Cell.kind, Cell.at] at *); (try simp (disch := omega) only [wrapId, toNatAdd, toNatSucc, isAt, reduceCtorEq, or_false, and_true, Bool.and_true, Bool.and_eq_true, Bool.and_eq_false_iff, beq_iff_eq, beq_eq_false_iff_ne, ne_eq, Int.toNat_natCast] at *)) <;> first | omega | assumption | (refine ⟨?_, ?_⟩ <;> assumption))
  exact pV 12 [(0, .v (V.d (D.bool false))), (3, .v (V.d (D.tup [(D.agg [(D.int IntKind.i64 (Prod.fst (best0 (allMarks rows) p))), (D.int IntKind.i64 (Prod.snd (best0 (allMarks rows) p)))]), (D.int IntKind.i64 (0 : Int))]))), (6, bf), (20, .v (V.d (D.agg [(D.int IntKind.i64 (Prod.fst (best0 (allMarks rows) p))), (D.int IntKind.i64 (Prod.snd (best0 (allMarks rows) p)))]))), (22, .v (V.d (D.bool true))), (25, .v (V.d (D.bool true)))] (cC (@oneU (rows) (p)) (cP (@ptEqU (rows) (p) (Prod.fst (best0 (allMarks rows) p)) (Prod.snd (best0 (allMarks rows) p))) (cC (@rclip0U (rows) (p) hs hm hk) (cP h0 (cC (@clip0U (rows) (p) hs hn hk) (cC (@longNoU (rows) (p) hr hl) nilE)))))) (by kernel_rfl) rfl rfl
set_option maxHeartbeats 4000000 in
theorem clips1 : clips1_T := by
  intro rows p hr hl hs hn hm hk hr2
  have h0 : ((↑(List.length rows) : Int) == (0 : Int)) = false := by (((try simp only [eq_self, and_true, true_and, Bool.and_true, Bool.true_and, Bool.not_eq_true', Bool.not_eq_false', Bool.and_eq_true, Bool.and_eq_false_iff, decide_eq_true_eq, decide_eq_false_iff_not, beq_iff_eq, beq_eq_false_iff_ne, bne_iff_ne, bne_eq_false_iff_eq, ne_eq, not_and, Int.toNat_natCast] at *); (try simp only [Row.cells, Row.wrapped, Row.end_, Cell.kind, Cell.at] at *); (try simp (disch := omega) only [wrapId, toNatAdd, toNatSucc, isAt, reduceCtorEq, or_false, and_true, Bool.and_true, Bool.and_eq_true, Bool.and_eq_false_iff, beq_iff_eq, beq_eq_false_iff_ne, ne_eq, Int.toNat_natCast] at *)) <;> first | omega | assumption | (refine ⟨?_, ?_⟩ <;> assumption))
  exact pV 12 [(0, .v (V.d (D.bool false))), (3, .v (V.d (D.tup [(D.agg [(D.int IntKind.i64 (mR (q1 rows p))), (D.int IntKind.i64 (mC (q1 rows p)))]), (D.int IntKind.i64 (0 : Int))]))), (6, bf), (21, .v (V.d (D.agg [(D.int IntKind.i64 (mR (q1 rows p))), (D.int IntKind.i64 (mC (q1 rows p)))]))), (23, .v (V.d (D.bool true))), (26, .v (V.d (D.bool true)))] (cC (@oneU (rows) (p)) (cP (@ptEqU (rows) (p) (mR (q1 rows p)) (mC (q1 rows p))) (cC (@rclip1U (rows) (p) hs hm hk) (cP h0 (cC (@clip1U (rows) (p) hs hn hk) (cC (@longNoU (rows) (p) hr hl) nilE)))))) (by kernel_rfl) rfl rfl
end Go.Proofs.Ytaobccodpdmieaa.Points
/- Points: slices.Reverse of marks, walked. -/
set_option linter.unusedVariables false
set_option linter.unusedSimpArgs false
namespace Go.Proofs.Ytaobccodpdmieaa.Points
open Go Go.RowKit Go.Proofs
/-- Four cells of each of n marks, in one block from its beginning on. -/
structure Row4 (w0 w : World) (blk n : Nat) (d : Nat → Nat → Int) : Prop where
  cell : ∀ i j, i < n → j < 4 → w.cell? ⟨blk, i * 4 + j, none⟩ = some (.int .i64 (d i j))
  frozen : ∀ i j, i < n → j < 4 → w.frozen? ⟨blk, i * 4 + j, none⟩ = false
  os : w.os = w0.os
  tape : w.tape = w0.tape
  output : w.output = w0.output
  size : w.heap.size = w0.heap.size
  block : ∀ k, k ≠ blk → w.heap[k]? = w0.heap[k]?
theorem Row4.congr {w0 w : World} {blk n : Nat} {d d' : Nat → Nat → Int} (R : Row4 w0 w blk n d) (h : ∀ a b, a < n → b < 4 → d a b = d' a b) : Row4 w0 w blk n d' :=
  { R with cell := fun i j hi hj => by rw [R.cell i j hi hj, h i j hi hj] }
theorem Row4.set {w0 w : World} {blk n : Nat} {d : Nat → Nat → Int} (R : Row4 w0 w blk n d) (i j o : Nat) (ho : o = i * 4 + j) (hi : i < n) (hj : j < 4) (x : Int) : Row4 w0 (w.setCell ⟨blk, o, none⟩ (.int .i64 x)) blk n (fun a b => if a = i ∧ b = j then x else d a b) := by
  subst ho
  refine { cell := fun a b ha hb => ?_, frozen := fun a b ha hb => ?_, os := R.os, tape := R.tape, output := R.output, size := ?_, block := fun k hk => ?_ }
  · by_cases h : a = i ∧ b = j
    · obtain ⟨rfl, rfl⟩ := h
      rw [if_pos ⟨rfl, rfl⟩]
      exact World.cell?_setCell_same _ _ _ (R.cell a b ha hb)
    · rw [if_neg h, World.cell?_setCell_other _ _ _ _ (by intro e; simp only [Addr.mk.injEq] at e; omega)]
      exact R.cell a b ha hb
  · rw [World.frozen?_setCell]
    exact R.frozen a b ha hb
  · rw [← R.size]
    simp [World.setCell]
  · rw [← R.block k hk]
    exact Below.heap_setCell _ _ _ _ hk
theorem Row4.drew {w0 w : World} {blk n : Nat} {d : Nat → Nat → Int} (R : Row4 w0 w blk n d) : Row4 w0 w.drew blk n d :=
  { cell := R.cell, frozen := R.frozen, os := R.os, tape := R.tape, output := R.output, size := R.size, block := R.block }
set_option maxHeartbeats 4000000 in
set_option maxRecDepth 1000000 in
theorem reverse_walk (blk cap n : Nat) (d : Nat → Nat → Int) (w : World) (h : Row4 w w blk n d) (hn : n ≤ 1000000000) :
    Calls Try.prog 37 #[.slice (some ⟨blk, 0, none⟩) n cap] w fun e w' => e = .returned (.tuple #[]) ∧ Row4 w w' blk n (fun i => d (n - 1 - i)) := by
  go_enter Try.func37, Try.ntmps37
  go_wp2
  go_loopg [2, 3] n (fun k s2 s3 wr => ∃ (i : Nat) (j : Int), s2 = .int .i64 i ∧ s3 = .int .i64 j ∧ (i : Int) + j = n - 1 ∧ i ≤ n ∧ (j - i + 1).toNat ≤ k ∧ (i : Int) ≤ j + 2 ∧ Row4 w wr blk n (fun a => if a < i ∨ n - 1 < a + i then d (n - 1 - a) else d a))
  case atStart => exact ⟨0, (n : Int) - 1, rfl, rfl, by omega, by omega, by omega, by omega, h.congr fun a b ha hb => by rw [if_neg (by omega)]⟩
  case round =>
    obtain ⟨i, j, rfl, rfl, h1, h2, hk, h3, hR⟩ := hrel
    by_cases hlt : (i : Int) < j
    · obtain ⟨jn, rfl⟩ : ∃ jn : Nat, j = jn := ⟨j.toNat, by omega⟩
      have hij : i < jn := by omega
      have hi : i < n := by omega
      have hj : jn < n := by omega
      have hjn : Aside (jn = n - 1 - i) := (show jn = n - 1 - i by omega)
      have get : ∀ a, a < n → ∃ x : Nat → Int, (∀ b, b < 4 → x b = (if a < i ∨ n - 1 < a + i then d (n - 1 - a) else d a) b) ∧ wr.cell? ⟨blk, a * 4, none⟩ = some (.int .i64 (x 0)) ∧ wr.cell? ⟨blk, a * 4 + 1, none⟩ = some (.int .i64 (x 1)) ∧ wr.cell? ⟨blk, a * 4 + 2, none⟩ = some (.int .i64 (x 2)) ∧ wr.cell? ⟨blk, a * 4 + 3, none⟩ = some (.int .i64 (x 3)) :=
        fun a ha => ⟨_, fun b hb => rfl, hR.cell a 0 ha (by omega), hR.cell a 1 ha (by omega), hR.cell a 2 ha (by omega), hR.cell a 3 ha (by omega)⟩
      have fz : ∀ a, a < n → wr.frozen? ⟨blk, a * 4, none⟩ = false ∧ wr.frozen? ⟨blk, a * 4 + 1, none⟩ = false ∧ wr.frozen? ⟨blk, a * 4 + 2, none⟩ = false ∧ wr.frozen? ⟨blk, a * 4 + 3, none⟩ = false :=
        fun a ha => ⟨hR.frozen a 0 ha (by omega), hR.frozen a 1 ha (by omega), hR.frozen a 2 ha (by omega), hR.frozen a 3 ha (by omega)⟩
      obtain ⟨x, ex, cx0, cx1, cx2, cx3⟩ := get i hi
      obtain ⟨y, ey, cy0, cy1, cy2, cy3⟩ := get jn hj
      obtain ⟨fx0, fx1, fx2, fx3⟩ := fz i hi
      obtain ⟨fy0, fy1, fy2, fy3⟩ := fz jn hj
      have hR2 := (((((((((hR.set i 0 (i * 4) (by omega) hi (by omega) (y 0)).set i 1 (i * 4 + 1) (by omega) hi (by omega) (y 1)).set i 2 (i * 4 + 2) (by omega) hi (by omega) (y 2)).set i 3 (i * 4 + 3) (by omega) hi (by omega) (y 3)).set jn 0 (jn * 4) (by omega) hj (by omega) (x 0)).set jn 1 (jn * 4 + 1) (by omega) hj (by omega) (x 1)).set jn 2 (jn * 4 + 2) (by omega) hj (by omega) (x 2)).set jn 3 (jn * 4 + 3) (by omega) hj (by omega) (x 3))).drew
      have A : Aside (Row4 w _ blk n _) := hR2
      have B : Aside (∀ b, b < 4 → x b = _) := ex
      have C : Aside (∀ b, b < 4 → y b = _) := ey
      clear get fz hR hR2 ex ey
      go_wp2_with fail
      go_region
      go_wp2
      go_roundg ((jn : Int) - 1 - (i + 1) + 1).toNat
      case measure => omega
      case rel =>
        refine ⟨i + 1, (jn : Int) - 1, by simp, rfl, by omega, by omega, by omega, by omega, (A.out).congr fun a b ha hb => ?_⟩
        have ex := B.out
        have ey := C.out
        have hjn := hjn.out
        have hb4 : b = 0 ∨ b = 1 ∨ b = 2 ∨ b = 3 := by omega
        by_cases e1 : a = i
        · subst e1
          rw [if_pos (show a < a + 1 ∨ n - 1 < a + (a + 1) by omega), ← hjn]
          have := ey b hb
          rw [if_neg (by omega)] at this
          rcases hb4 with rfl | rfl | rfl | rfl <;> simp [show ¬ a = jn by omega] <;> exact this
        · by_cases e2 : a = jn
          · subst e2
            rw [if_pos (show a < i + 1 ∨ n - 1 < a + (i + 1) by omega), show n - 1 - a = i by omega]
            have := ex b hb
            rw [if_neg (by omega)] at this
            rcases hb4 with rfl | rfl | rfl | rfl <;> simp <;> exact this
          · simp only [e1, e2, false_and, if_false]
            by_cases hc : a < i ∨ n - 1 < a + i
            · rw [if_pos hc, if_pos (by omega)]
            · rw [if_neg hc, if_neg (by omega)]
    · go_wp2
      go_end0
      refine ⟨rfl, hR.congr fun a b ha hb => ?_⟩
      by_cases hc : a < i ∨ n - 1 < a + i
      · rw [if_pos hc]
      · rw [if_neg hc, show n - 1 - a = a by omega]
end Go.Proofs.Ytaobccodpdmieaa.Points
/- Points: points.marks as a call: the row that it hands back is its own. -/
set_option linter.unusedVariables false
set_option linter.unusedSimpArgs false
set_option maxRecDepth 100000
namespace Go.Proofs.Ytaobccodpdmieaa.Points
open Go Go.RowKit Pv G
def hdC : Code → Code | .seq a _ => a | c => c
def tlC : Code → Code | .seq _ b => b | c => c
noncomputable def cM : Code := (Try.f29.body).getD .skip
noncomputable def p1 : Code := hdC cM
noncomputable def p2 : Code := hdC (tlC cM)
noncomputable def p3 : Code := hdC (tlC (tlC cM))
noncomputable def p4 : Code := hdC (tlC (tlC (tlC cM)))
noncomputable def nM : Nat := Try.f29.ntmps
noncomputable def rM : Nat := retMask Try.f29
noncomputable def aM (c : Code) (nx : Nat) : AC × Nat := annot nM ((1 <<< nM) - 1) rM c nx []
noncomputable def x4 : Nat := (aM (.seq p4 .ret) rM).2
noncomputable def x3 : Nat := (aM p3 x4).2
noncomputable def x2 : Nat := (aM p2 x3).2
theorem cM_eq : Try.f29.body = some (.seq p1 (.seq p2 (.seq p3 (.seq p4 .ret)))) := by kernel_rfl
theorem mk1 (rows : List Row) : Rd X0 0 nM (aM p1 x2).1 ⟨argEnv 0 [.d (rowT.slD rows)], [], []⟩ (.nrm, ⟨[(0, .d (rowT.slD rows))], [], []⟩) := pR 12 [] nilE (by kernel_rfl)
theorem mk2 (rows : List Row) : Rd X0 0 nM (aM p2 x3).1 ⟨[(0, .d (rowT.slD rows))], [], []⟩ (.nrm, ⟨[(0, .d (rowT.slD rows)), (3, markT.tailV 77 [])], [], []⟩) := pR 12 [] nilE (by kernel_rfl)
theorem mk3 (rows : List Row) (hs : smallR rows) : Rd X0 0 nM (aM p3 x4).1 ⟨[(0, .d (rowT.slD rows)), (3, markT.tailV 77 [])], [], []⟩ (.nrm, stM0x rows (allMarks rows)) :=
  pR 12 [(0, .l (Ex.exit (0 : Nat)) (stM0x rows (allMarks rows)))] (cE (@marksLoop0 rows hs) nilE) (by kernel_rfl)
/-- A mark's fields. -/
def mF (m : Mark) : Nat → Int
  | 0 => m.1
  | 1 => m.2.1
  | 2 => m.2.2.1
  | _ => m.2.2.2.1
theorem p4_eq : p4 = Code.region 9
  #[{ dst := some 40, op := Op.move (Operand.tmp 3), type := 78, pos := "points.go:60", after := #[], guard := none },
    { dst := some 2, op := Op.assign (Operand.tmp 40), type := 78, pos := "points.go:60",
      after := #[{ on := 0, ground := Ground.data }, { on := 0, ground := Ground.phase }], guard := none }]
  false := by kernel_rfl
set_option maxHeartbeats 4000000 in
theorem last_wp (v : Value) (a : Act) (w : World) (R : Ending → World → Prop) (hsz : 41 ≤ a.tmps.size) (hv : a.tmps.getD 3 undef = v) (hd : a.defers = []) (hR : R (.returned v) w) :
    (Code.seq p4 .ret).wp Try.prog (bodyPost Try.prog Try.f29 R) a w := by
  obtain ⟨⟨l0⟩, df⟩ := a
  simp only at hd hsz
  subst hd
  obtain ⟨u0, l1, rfl⟩ : ∃ x y, l0 = x :: y := by cases l0 with | nil => simp at hsz | cons x y => exact ⟨x, y, rfl⟩
  obtain ⟨u1, l2, rfl⟩ : ∃ x y, l1 = x :: y := by cases l1 with | nil => simp at hsz | cons x y => exact ⟨x, y, rfl⟩
  obtain ⟨u2, l3, rfl⟩ : ∃ x y, l2 = x :: y := by cases l2 with | nil => simp at hsz | cons x y => exact ⟨x, y, rfl⟩
  obtain ⟨u3, l4, rfl⟩ : ∃ x y, l3 = x :: y := by cases l3 with | nil => simp at hsz | cons x y => exact ⟨x, y, rfl⟩
  obtain ⟨u4, l5, rfl⟩ : ∃ x y, l4 = x :: y := by cases l4 with | nil => simp at hsz | cons x y => exact ⟨x, y, rfl⟩
  obtain ⟨u5, l6, rfl⟩ : ∃ x y, l5 = x :: y := by cases l5 with | nil => simp at hsz | cons x y => exact ⟨x, y, rfl⟩
  obtain ⟨u6, l7, rfl⟩ : ∃ x y, l6 = x :: y := by cases l6 with | nil => simp at hsz | cons x y => exact ⟨x, y, rfl⟩
  obtain ⟨u7, l8, rfl⟩ : ∃ x y, l7 = x :: y := by cases l7 with | nil => simp at hsz | cons x y => exact ⟨x, y, rfl⟩
  obtain ⟨u8, l9, rfl⟩ : ∃ x y, l8 = x :: y := by cases l8 with | nil => simp at hsz | cons x y => exact ⟨x, y, rfl⟩
  obtain ⟨u9, l10, rfl⟩ : ∃ x y, l9 = x :: y := by cases l9 with | nil => simp at hsz | cons x y => exact ⟨x, y, rfl⟩
  obtain ⟨u10, l11, rfl⟩ : ∃ x y, l10 = x :: y := by cases l10 with | nil => simp at hsz | cons x y => exact ⟨x, y, rfl⟩
  obtain ⟨u11, l12, rfl⟩ : ∃ x y, l11 = x :: y := by cases l11 with | nil => simp at hsz | cons x y => exact ⟨x, y, rfl⟩
  obtain ⟨u12, l13, rfl⟩ : ∃ x y, l12 = x :: y := by cases l12 with | nil => simp at hsz | cons x y => exact ⟨x, y, rfl⟩
  obtain ⟨u13, l14, rfl⟩ : ∃ x y, l13 = x :: y := by cases l13 with | nil => simp at hsz | cons x y => exact ⟨x, y, rfl⟩
  obtain ⟨u14, l15, rfl⟩ : ∃ x y, l14 = x :: y := by cases l14 with | nil => simp at hsz | cons x y => exact ⟨x, y, rfl⟩
  obtain ⟨u15, l16, rfl⟩ : ∃ x y, l15 = x :: y := by cases l15 with | nil => simp at hsz | cons x y => exact ⟨x, y, rfl⟩
  obtain ⟨u16, l17, rfl⟩ : ∃ x y, l16 = x :: y := by cases l16 with | nil => simp at hsz | cons x y => exact ⟨x, y, rfl⟩
  obtain ⟨u17, l18, rfl⟩ : ∃ x y, l17 = x :: y := by cases l17 with | nil => simp at hsz | cons x y => exact ⟨x, y, rfl⟩
  obtain ⟨u18, l19, rfl⟩ : ∃ x y, l18 = x :: y := by cases l18 with | nil => simp at hsz | cons x y => exact ⟨x, y, rfl⟩
  obtain ⟨u19, l20, rfl⟩ : ∃ x y, l19 = x :: y := by cases l19 with | nil => simp at hsz | cons x y => exact ⟨x, y, rfl⟩
  obtain ⟨u20, l21, rfl⟩ : ∃ x y, l20 = x :: y := by cases l20 with | nil => simp at hsz | cons x y => exact ⟨x, y, rfl⟩
  obtain ⟨u21, l22, rfl⟩ : ∃ x y, l21 = x :: y := by cases l21 with | nil => simp at hsz | cons x y => exact ⟨x, y, rfl⟩
  obtain ⟨u22, l23, rfl⟩ : ∃ x y, l22 = x :: y := by cases l22 with | nil => simp at hsz | cons x y => exact ⟨x, y, rfl⟩
  obtain ⟨u23, l24, rfl⟩ : ∃ x y, l23 = x :: y := by cases l23 with | nil => simp at hsz | cons x y => exact ⟨x, y, rfl⟩
  obtain ⟨u24, l25, rfl⟩ : ∃ x y, l24 = x :: y := by cases l24 with | nil => simp at hsz | cons x y => exact ⟨x, y, rfl⟩
  obtain ⟨u25, l26, rfl⟩ : ∃ x y, l25 = x :: y := by cases l25 with | nil => simp at hsz | cons x y => exact ⟨x, y, rfl⟩
  obtain ⟨u26, l27, rfl⟩ : ∃ x y, l26 = x :: y := by cases l26 with | nil => simp at hsz | cons x y => exact ⟨x, y, rfl⟩
  obtain ⟨u27, l28, rfl⟩ : ∃ x y, l27 = x :: y := by cases l27 with | nil => simp at hsz | cons x y => exact ⟨x, y, rfl⟩
  obtain ⟨u28, l29, rfl⟩ : ∃ x y, l28 = x :: y := by cases l28 with | nil => simp at hsz | cons x y => exact ⟨x, y, rfl⟩
  obtain ⟨u29, l30, rfl⟩ : ∃ x y, l29 = x :: y := by cases l29 with | nil => simp at hsz | cons x y => exact ⟨x, y, rfl⟩
  obtain ⟨u30, l31, rfl⟩ : ∃ x y, l30 = x :: y := by cases l30 with | nil => simp at hsz | cons x y => exact ⟨x, y, rfl⟩
  obtain ⟨u31, l32, rfl⟩ : ∃ x y, l31 = x :: y := by cases l31 with | nil => simp at hsz | cons x y => exact ⟨x, y, rfl⟩
  obtain ⟨u32, l33, rfl⟩ : ∃ x y, l32 = x :: y := by cases l32 with | nil => simp at hsz | cons x y => exact ⟨x, y, rfl⟩
  obtain ⟨u33, l34, rfl⟩ : ∃ x y, l33 = x :: y := by cases l33 with | nil => simp at hsz | cons x y => exact ⟨x, y, rfl⟩
  obtain ⟨u34, l35, rfl⟩ : ∃ x y, l34 = x :: y := by cases l34 with | nil => simp at hsz | cons x y => exact ⟨x, y, rfl⟩
  obtain ⟨u35, l36, rfl⟩ : ∃ x y, l35 = x :: y := by cases l35 with | nil => simp at hsz | cons x y => exact ⟨x, y, rfl⟩
  obtain ⟨u36, l37, rfl⟩ : ∃ x y, l36 = x :: y := by cases l36 with | nil => simp at hsz | cons x y => exact ⟨x, y, rfl⟩
  obtain ⟨u37, l38, rfl⟩ : ∃ x y, l37 = x :: y := by cases l37 with | nil => simp at hsz | cons x y => exact ⟨x, y, rfl⟩
  obtain ⟨u38, l39, rfl⟩ : ∃ x y, l38 = x :: y := by cases l38 with | nil => simp at hsz | cons x y => exact ⟨x, y, rfl⟩
  obtain ⟨u39, l40, rfl⟩ : ∃ x y, l39 = x :: y := by cases l39 with | nil => simp at hsz | cons x y => exact ⟨x, y, rfl⟩
  obtain ⟨u40, l41, rfl⟩ : ∃ x y, l40 = x :: y := by cases l40 with | nil => simp at hsz | cons x y => exact ⟨x, y, rfl⟩
  have hv' : u3 = v := by simpa using hv
  subst hv'
  clear hv hsz
  rw [p4_eq]
  refine wp_seq ?_
  go_wp2
  exact hR
/-- The same, from its beginning on. -/
theorem marks_calls (rows : List Row) (hs : smallR rows) (v : Value) (W : World) (g : Gh) (hf : Fresh g W) (hv : RepD W g.e v (rowT.slD rows)) :
    Calls Try.prog 29 #[v] W fun e w' => ∃ u, e = .returned u ∧ Below W.heap.size W w' ∧ (allMarks rows ≠ [] →
      ∃ (b c : Nat) (cur : Array Value) (T : TypeId), u = .slice (some ⟨b, 0, none⟩) (allMarks rows).length c ∧ W.heap.size ≤ b ∧ (allMarks rows).length ≤ c ∧ w'.heap[b]? = some (.cells cur T (0, 0)) ∧ ∀ i j, i < (allMarks rows).length → j < 4 → cur[i * 4 + j]? = some (.int .i64 (mF (markT.nth (allMarks rows) i) j))) := by
  obtain ⟨K1, h1⟩ := mk1 rows
  obtain ⟨K2, h2⟩ := mk2 rows
  obtain ⟨K3, h3⟩ := mk3 rows hs
  have e1 := h1 (K1 + K2 + K3) (by omega)
  have e2 := h2 (K1 + K2 + K3) (by omega)
  have e3 := h3 (K1 + K2 + K3) (by omega)
  obtain ⟨hc, hci⟩ := callN_ok (X := X0) (fun _ => rfl) ext0_ok ext0_pure ext0_iok FUEL (K1 + K2 + K3)
  have hp : PtV X0 W (g.alone W.heap.size) [v] [.d (rowT.slD rows)] := by
    refine ⟨rfl, fun j u x a b => ?_⟩
    match j with
    | 0 => simp at a b; subst a; subst b; exact .d _ _ _ hv
    | j + 1 => simp at a
  have r0 := start_rel (N := nM) hp (alone_sit hf (glob0 W _)) alone_low
  refine calls_of_wp Try.func29 cM_eq ?_
  refine wp_seq ?_
  refine exec_sound hc hci p1 x2 [] _ _ _ _ _ _ _ e1 r0 fun a1 w1 g1 l1 r1 => ?_
  refine wp_seq ?_
  refine exec_sound hc hci p2 x3 [] _ _ _ _ _ _ _ e2 r1 fun a2 w2 g2 l2 r2 => ?_
  refine wp_seq ?_
  refine exec_sound hc hci p3 x4 [] _ _ _ _ _ _ _ e3 r2 fun a3 w3 g3 l3 r3 => ?_
  have L := (l1.trans l2).trans l3
  have old : ∀ b, b < W.heap.size → w3.heap[b]? = W.heap[b]? ∧ g3.own b = .fgn := fun b hb => by
    obtain ⟨x, y, _⟩ := L.fgn b (by simp only [Gh.alone]; rw [if_pos hb])
    exact ⟨x, y⟩
  refine last_wp _ a3 w3 _ r3.size rfl r3.defers ⟨_, rfl, ⟨L.os, L.tape, L.output, L.size, fun k hk => (old k hk).1⟩, fun hne => ?_⟩
  have r : RepV X0 w3 g3 (.slot 3) (a3.tmps.getD 3 undef) (.tail 77 ((allMarks rows).flatMap markT.enc) (allMarks rows).length) := r3.slots 3
  generalize a3.tmps.getD 3 undef = u at r ⊢
  have hlen : 0 < (allMarks rows).length := List.length_pos_iff.2 hne
  have hfl : ((allMarks rows).flatMap markT.enc).length = (allMarks rows).length * 4 := flat_len _ 4 (Ty.enc_length markT) _
  generalize hce : (allMarks rows).flatMap markT.enc = cells at r hfl
  obtain ⟨n, hn0⟩ : ∃ n, n = (allMarks rows).length := ⟨_, rfl⟩
  rw [← hn0] at r
  cases r with
  | tail0 => omega
  | tail _ _ _ _ b c cur z vals hz hz0 hb hn hm hcur hcl he ho hpp hvv hr =>
    subst hce
    subst hn0
    have hz4 : z = 4 := Option.some.inj (hz.symm.trans (show sizeT X0.P 77 = some 4 by kernel_rfl))
    subst hz4
    refine ⟨b, c, cur, _, rfl, ?_, hn, hb, fun i j hi hj => ?_⟩
    · apply Classical.byContradiction
      intro hlt
      have := (old b (by omega)).2
      rw [ho] at this
      cases this
    · have hlt : i * 4 + j < vals.length := by
        have hcl2 : cur.toList.length = c * 4 := by rw [Array.length_toList]; exact hcur
        have hv2 : vals.length = min ((allMarks rows).length * 4) (c * 4) := by rw [← hcl2, ← List.length_take]; exact congrArg List.length hvv.symm
        rw [hv2]
        have : (allMarks rows).length * 4 ≤ c * 4 := Nat.mul_le_mul_right 4 hn
        omega
      have hd : ((allMarks rows).flatMap markT.enc)[i * 4 + j]? = (markT.enc (markT.nth (allMarks rows) i))[j]? := flat_get _ 4 (Ty.enc_length markT) _ _ i j hi hj
      have hd2 : (markT.enc (markT.nth (allMarks rows) i))[j]? = some (.int .i64 (mF (markT.nth (allMarks rows) i) j)) := by
        match j, hj with
        | 0, _ => rfl
        | 1, _ => rfl
        | 2, _ => rfl
        | 3, _ => rfl
      have hrep := hr (i * 4 + j) vals[i * 4 + j] _ (List.getElem?_eq_getElem hlt) (hd.trans hd2)
      have hcv : cur[i * 4 + j]? = some vals[i * 4 + j] := by
        have := List.getElem?_eq_getElem hlt
        rw [← Array.getElem?_toList]
        have h2 : (cur.toList.take ((allMarks rows).length * 4))[i * 4 + j]? = some vals[i * 4 + j] := by
          have e : cur.toList.take ((allMarks rows).length * 4) = vals := hvv
          rw [e]
          exact this
        rw [List.getElem?_take] at h2
        split at h2
        · exact h2
        · cases h2
      rw [hcv]
      generalize vals[i * 4 + j] = q at hrep
      cases hrep
      rfl
end Go.Proofs.Ytaobccodpdmieaa.Points
