/- Lemmas for the law ScriptParsesLaw: texts of mine, merged. -/
import Derived.Test.YtgiahagbmgnmkaaDoorMScriptParsesLaw3
/- Script: paths, printed by a program of mine. -/
set_option maxRecDepth 100000
set_option linter.unusedSimpArgs false
set_option linter.unusedVariables false
namespace Go.Proofs.YtgiahagbmgnmkaaDoor.Script
open Go Pv G
set_option maxHeartbeats 4000000 in
theorem in0 : in0_T := by
  intro ws bad k a b es hl hs hl2 hs2
  exact pB 12 [(0, .l (Ex.exit (0 : Nat)) (stIx (rmW ws bad) (rmB ws bad) k a b es (rmR ws bad) [])), (1, .l (Ex.exit (2 : Nat)) (stIy (adW (rmW ws bad) (rmB ws bad)) (adB (rmW ws bad) (rmB ws bad)) k a b es (rmR ws bad) (adN (rmW ws bad) (rmB ws bad))))] (cE (@adL (rmW ws bad) (rmB ws bad) (k) (a) (b) (es) (rmR ws bad) hl2 hs2) (cE (@rmL0 (ws) (bad) (k) (a) (b) (es) hl hs) nilE)) (by kernel_rfl)
set_option maxHeartbeats 4000000 in
theorem psNl : psNl_T := by
  intro line hn
  have h0 : (hasC (10 : UInt8) line) = true := by (first | assumption | (((try simp only [SA] at *); (try simp (disch := omega) only [SB, reduceCtorEq] at *)) <;> first | omega | assumption | (refine ⟨?_, ?_⟩ <;> assumption) | (refine ⟨?_, ?_, ?_⟩ <;> assumption) | (intros; assumption) | (right; right; assumption) | (right; left; assumption) | (left; assumption)))
  exact pV 12 [(0, .v (V.d (D.bool (hasC (10 : UInt8) line)))), (1, bt)] (cP h0 (cC (@hasNl (line)) nilE)) (by kernel_rfl) rfl rfl
set_option maxHeartbeats 4000000 in
theorem psEd1 : psEd1_T := by
  intro line w1 hl hn e1 e2 e3 s1 hl1 hb
  have h0 : (hasC (10 : UInt8) line) = false := by (first | assumption | (((try simp only [SA] at *); (try simp (disch := omega) only [SB, reduceCtorEq] at *)) <;> first | omega | assumption | (refine ⟨?_, ?_⟩ <;> assumption) | (refine ⟨?_, ?_, ?_⟩ <;> assumption) | (intros; assumption) | (right; right; assumption) | (right; left; assumption) | (left; assumption)))
  have h1 : (edB w1) = true := by (first | assumption | (((try simp only [SA] at *); (try simp (disch := omega) only [SB, reduceCtorEq] at *)) <;> first | omega | assumption | (refine ⟨?_, ?_⟩ <;> assumption) | (refine ⟨?_, ?_, ?_⟩ <;> assumption) | (intros; assumption) | (right; right; assumption) | (right; left; assumption) | (left; assumption)))
  exact pV 12 [(0, .v (V.d (D.bool (hasC (10 : UInt8) line)))), (1, bf), (2, .v (V.d (strsD (pieces (32 : UInt8) line)))), (3, .c (V.d (D.str [(101 : UInt8), (100 : UInt8), (105 : UInt8), (116 : UInt8)])) ([(Ob.cells [(V.d (D.int IntKind.i64 (0 : Int))), (V.d (D.int IntKind.i64 (0 : Int))), (V.d (D.int IntKind.i64 (0 : Int))), (V.tail (nat_lit 48) [] (nat_lit 0)), (V.tail (nat_lit 3) [] (nat_lit 0)), (V.tail (nat_lit 60) [] (nat_lit 0))]), (rdO w1 false), (Ob.cells [(V.d (D.int IntKind.i64 (0 : Int))), (V.d (D.int IntKind.i64 (0 : Int))), (V.d (D.int IntKind.i64 (0 : Int))), (V.tail (nat_lit 48) [] (nat_lit 0)), (V.tail (nat_lit 3) [] (nat_lit 0)), (V.tail (nat_lit 60) [] (nat_lit 0))])])), (4, .v (V.d (D.bool ([(101 : UInt8), (100 : UInt8), (105 : UInt8), (116 : UInt8)] == [(101 : UInt8), (100 : UInt8), (105 : UInt8), (116 : UInt8)])))), (6, .l (Ex.exit (1 : Nat)) (stEx (edW w1) (edB w1) (1 : Int) (0 : Int) (0 : Int) (edE w1))), (8, bt), (9, bt), (10, bt), (11, bt), (12, bt), (13, bt), (14, bt)] (cP h1 (cP h1 (cP h1 (cP h1 (cP h1 (cP h1 (cP h1 (cE (@edL (w1) ((1 : Int)) ((0 : Int)) ((0 : Int)) hl1 s1) (cP (@strEq ([(101 : UInt8), (100 : UInt8), (105 : UInt8), (116 : UInt8)]) ([(101 : UInt8), (100 : UInt8), (105 : UInt8), (116 : UInt8)])) (cE (@wordE (Ob.cells [(V.d (D.int IntKind.i64 (0 : Int))), (V.d (D.int IntKind.i64 (0 : Int))), (V.d (D.int IntKind.i64 (0 : Int))), (V.tail (nat_lit 48) [] (nat_lit 0)), (V.tail (nat_lit 3) [] (nat_lit 0)), (V.tail (nat_lit 60) [] (nat_lit 0))]) (pieces (32 : UInt8) line) (false) ([(Ob.cells [(V.d (D.int IntKind.i64 (0 : Int))), (V.d (D.int IntKind.i64 (0 : Int))), (V.d (D.int IntKind.i64 (0 : Int))), (V.tail (nat_lit 48) [] (nat_lit 0)), (V.tail (nat_lit 3) [] (nat_lit 0)), (V.tail (nat_lit 60) [] (nat_lit 0))])]) ([(101 : UInt8), (100 : UInt8), (105 : UInt8), (116 : UInt8)]) (w1) (false) e1 e2 e3) (cC (@splitW (line) hl) (cP h0 (cC (@hasNl (line)) nilE))))))))))))) (by kernel_rfl) rfl rfl
set_option maxHeartbeats 4000000 in
theorem psEd2 : psEd2_T := by
  intro line w1 hl hn e1 e2 e3 s1 hl1 hb hm
  have h0 : (hasC (10 : UInt8) line) = false := by (first | assumption | (((try simp only [SA] at *); (try simp (disch := omega) only [SB, reduceCtorEq] at *)) <;> first | omega | assumption | (refine ⟨?_, ?_⟩ <;> assumption) | (refine ⟨?_, ?_, ?_⟩ <;> assumption) | (intros; assumption) | (right; right; assumption) | (right; left; assumption) | (left; assumption)))
  have h1 : (edB w1) = false := by (first | assumption | (((try simp only [SA] at *); (try simp (disch := omega) only [SB, reduceCtorEq] at *)) <;> first | omega | assumption | (refine ⟨?_, ?_⟩ <;> assumption) | (refine ⟨?_, ?_, ?_⟩ <;> assumption) | (intros; assumption) | (right; right; assumption) | (right; left; assumption) | (left; assumption)))
  have h2 : (decide ((↑(List.length (edW w1)) : Int) > (0 : Int))) = false := by (first | assumption | (((try simp only [SA] at *); (try simp (disch := omega) only [SB, reduceCtorEq] at *)) <;> first | omega | assumption | (refine ⟨?_, ?_⟩ <;> assumption) | (refine ⟨?_, ?_, ?_⟩ <;> assumption) | (intros; assumption) | (right; right; assumption) | (right; left; assumption) | (left; assumption)))
  exact pV 12 [(0, .v (V.d (D.bool (hasC (10 : UInt8) line)))), (1, bf), (2, .v (V.d (strsD (pieces (32 : UInt8) line)))), (3, .c (V.d (D.str [(101 : UInt8), (100 : UInt8), (105 : UInt8), (116 : UInt8)])) ([(Ob.cells [(V.d (D.int IntKind.i64 (0 : Int))), (V.d (D.int IntKind.i64 (0 : Int))), (V.d (D.int IntKind.i64 (0 : Int))), (V.tail (nat_lit 48) [] (nat_lit 0)), (V.tail (nat_lit 3) [] (nat_lit 0)), (V.tail (nat_lit 60) [] (nat_lit 0))]), (rdO w1 false), (Ob.cells [(V.d (D.int IntKind.i64 (0 : Int))), (V.d (D.int IntKind.i64 (0 : Int))), (V.d (D.int IntKind.i64 (0 : Int))), (V.tail (nat_lit 48) [] (nat_lit 0)), (V.tail (nat_lit 3) [] (nat_lit 0)), (V.tail (nat_lit 60) [] (nat_lit 0))])])), (4, .v (V.d (D.bool ([(101 : UInt8), (100 : UInt8), (105 : UInt8), (116 : UInt8)] == [(101 : UInt8), (100 : UInt8), (105 : UInt8), (116 : UInt8)])))), (6, .l (Ex.exit (1 : Nat)) (stEx (edW w1) (edB w1) (1 : Int) (0 : Int) (0 : Int) (edE w1))), (8, bf), (9, bf), (10, bf), (11, bf), (13, bf), (15, bf), (17, bf), (18, bf)] (cP h2 (cP h1 (cP h1 (cP h1 (cP h1 (cP h1 (cP h1 (cP h1 (cE (@edL (w1) ((1 : Int)) ((0 : Int)) ((0 : Int)) hl1 s1) (cP (@strEq ([(101 : UInt8), (100 : UInt8), (105 : UInt8), (116 : UInt8)]) ([(101 : UInt8), (100 : UInt8), (105 : UInt8), (116 : UInt8)])) (cE (@wordE (Ob.cells [(V.d (D.int IntKind.i64 (0 : Int))), (V.d (D.int IntKind.i64 (0 : Int))), (V.d (D.int IntKind.i64 (0 : Int))), (V.tail (nat_lit 48) [] (nat_lit 0)), (V.tail (nat_lit 3) [] (nat_lit 0)), (V.tail (nat_lit 60) [] (nat_lit 0))]) (pieces (32 : UInt8) line) (false) ([(Ob.cells [(V.d (D.int IntKind.i64 (0 : Int))), (V.d (D.int IntKind.i64 (0 : Int))), (V.d (D.int IntKind.i64 (0 : Int))), (V.tail (nat_lit 48) [] (nat_lit 0)), (V.tail (nat_lit 3) [] (nat_lit 0)), (V.tail (nat_lit 60) [] (nat_lit 0))])]) ([(101 : UInt8), (100 : UInt8), (105 : UInt8), (116 : UInt8)]) (w1) (false) e1 e2 e3) (cC (@splitW (line) hl) (cP h0 (cC (@hasNl (line)) nilE)))))))))))))) (by kernel_rfl) rfl rfl
set_option maxHeartbeats 4000000 in
theorem psFold1 : psFold1_T := by
  intro line w1 hl hn e1 e2 e3 w2 w3 b2 b3 n m s1 s2 g1 g2 g3 i1 i2 i3 hb
  have h0 : (hasC (10 : UInt8) line) = false := by (first | assumption | (((try simp only [SA] at *); (try simp (disch := omega) only [SB, reduceCtorEq] at *)) <;> first | omega | assumption | (refine ⟨?_, ?_⟩ <;> assumption) | (refine ⟨?_, ?_, ?_⟩ <;> assumption) | (intros; assumption) | (right; right; assumption) | (right; left; assumption) | (left; assumption)))
  have h1 : (b3) = true := by (first | assumption | (((try simp only [SA] at *); (try simp (disch := omega) only [SB, reduceCtorEq] at *)) <;> first | omega | assumption | (refine ⟨?_, ?_⟩ <;> assumption) | (refine ⟨?_, ?_, ?_⟩ <;> assumption) | (intros; assumption) | (right; right; assumption) | (right; left; assumption) | (left; assumption)))
  exact pV 12 [(0, .v (V.d (D.bool (hasC (10 : UInt8) line)))), (1, bf), (2, .v (V.d (strsD (pieces (32 : UInt8) line)))), (3, .c (V.d (D.str [(102 : UInt8), (111 : UInt8), (108 : UInt8), (100 : UInt8)])) ([(Ob.cells [(V.d (D.int IntKind.i64 (0 : Int))), (V.d (D.int IntKind.i64 (0 : Int))), (V.d (D.int IntKind.i64 (0 : Int))), (V.tail (nat_lit 48) [] (nat_lit 0)), (V.tail (nat_lit 3) [] (nat_lit 0)), (V.tail (nat_lit 60) [] (nat_lit 0))]), (rdO w1 false), (Ob.cells [(V.d (D.int IntKind.i64 (0 : Int))), (V.d (D.int IntKind.i64 (0 : Int))), (V.d (D.int IntKind.i64 (0 : Int))), (V.tail (nat_lit 48) [] (nat_lit 0)), (V.tail (nat_lit 3) [] (nat_lit 0)), (V.tail (nat_lit 60) [] (nat_lit 0))])])), (4, .v (V.d (D.bool ([(102 : UInt8), (111 : UInt8), (108 : UInt8), (100 : UInt8)] == [(101 : UInt8), (100 : UInt8), (105 : UInt8), (116 : UInt8)])))), (6, .v (V.d (D.bool ([(102 : UInt8), (111 : UInt8), (108 : UInt8), (100 : UInt8)] == [(102 : UInt8), (111 : UInt8), (108 : UInt8), (100 : UInt8)])))), (8, .c (V.d (D.int IntKind.i64 n)) ([(Ob.cells [(V.d (D.int IntKind.i64 (0 : Int))), (V.d (D.int IntKind.i64 (0 : Int))), (V.d (D.int IntKind.i64 (0 : Int))), (V.tail (nat_lit 48) [] (nat_lit 0)), (V.tail (nat_lit 3) [] (nat_lit 0)), (V.tail (nat_lit 60) [] (nat_lit 0))]), (rdO w2 b2), (Ob.cells [(V.d (D.int IntKind.i64 (2 : Int))), (V.d (D.int IntKind.i64 (0 : Int))), (V.d (D.int IntKind.i64 (0 : Int))), (V.tail (nat_lit 48) [] (nat_lit 0)), (V.tail (nat_lit 3) [] (nat_lit 0)), (V.tail (nat_lit 60) [] (nat_lit 0))])])), (9, .c (V.d (D.int IntKind.i64 m)) ([(Ob.cells [(V.d (D.int IntKind.i64 (0 : Int))), (V.d (D.int IntKind.i64 (0 : Int))), (V.d (D.int IntKind.i64 (0 : Int))), (V.tail (nat_lit 48) [] (nat_lit 0)), (V.tail (nat_lit 3) [] (nat_lit 0)), (V.tail (nat_lit 60) [] (nat_lit 0))]), (rdO w3 b3), (Ob.cells [(V.d (D.int IntKind.i64 (2 : Int))), (V.d (D.int IntKind.i64 (0 : Int))), (V.d (D.int IntKind.i64 (0 : Int))), (V.tail (nat_lit 48) [] (nat_lit 0)), (V.tail (nat_lit 3) [] (nat_lit 0)), (V.tail (nat_lit 60) [] (nat_lit 0))])])), (11, bt), (12, bt), (13, bt), (14, bt), (15, bt), (16, bt), (17, bt)] (cP h1 (cP h1 (cP h1 (cP h1 (cP h1 (cP h1 (cP h1 (cE (@numE (Ob.cells [(V.d (D.int IntKind.i64 (0 : Int))), (V.d (D.int IntKind.i64 (0 : Int))), (V.d (D.int IntKind.i64 (0 : Int))), (V.tail (nat_lit 48) [] (nat_lit 0)), (V.tail (nat_lit 3) [] (nat_lit 0)), (V.tail (nat_lit 60) [] (nat_lit 0))]) (w2) (b2) ([(Ob.cells [(V.d (D.int IntKind.i64 (2 : Int))), (V.d (D.int IntKind.i64 (0 : Int))), (V.d (D.int IntKind.i64 (0 : Int))), (V.tail (nat_lit 48) [] (nat_lit 0)), (V.tail (nat_lit 3) [] (nat_lit 0)), (V.tail (nat_lit 60) [] (nat_lit 0))])]) (m) (w3) (b3) s2 i1 i2 i3) (cE (@numE (Ob.cells [(V.d (D.int IntKind.i64 (0 : Int))), (V.d (D.int IntKind.i64 (0 : Int))), (V.d (D.int IntKind.i64 (0 : Int))), (V.tail (nat_lit 48) [] (nat_lit 0)), (V.tail (nat_lit 3) [] (nat_lit 0)), (V.tail (nat_lit 60) [] (nat_lit 0))]) (w1) (false) ([(Ob.cells [(V.d (D.int IntKind.i64 (2 : Int))), (V.d (D.int IntKind.i64 (0 : Int))), (V.d (D.int IntKind.i64 (0 : Int))), (V.tail (nat_lit 48) [] (nat_lit 0)), (V.tail (nat_lit 3) [] (nat_lit 0)), (V.tail (nat_lit 60) [] (nat_lit 0))])]) (n) (w2) (b2) s1 g1 g2 g3) (cP (@strEq ([(102 : UInt8), (111 : UInt8), (108 : UInt8), (100 : UInt8)]) ([(102 : UInt8), (111 : UInt8), (108 : UInt8), (100 : UInt8)])) (cP (@strEq ([(102 : UInt8), (111 : UInt8), (108 : UInt8), (100 : UInt8)]) ([(101 : UInt8), (100 : UInt8), (105 : UInt8), (116 : UInt8)])) (cE (@wordE (Ob.cells [(V.d (D.int IntKind.i64 (0 : Int))), (V.d (D.int IntKind.i64 (0 : Int))), (V.d (D.int IntKind.i64 (0 : Int))), (V.tail (nat_lit 48) [] (nat_lit 0)), (V.tail (nat_lit 3) [] (nat_lit 0)), (V.tail (nat_lit 60) [] (nat_lit 0))]) (pieces (32 : UInt8) line) (false) ([(Ob.cells [(V.d (D.int IntKind.i64 (0 : Int))), (V.d (D.int IntKind.i64 (0 : Int))), (V.d (D.int IntKind.i64 (0 : Int))), (V.tail (nat_lit 48) [] (nat_lit 0)), (V.tail (nat_lit 3) [] (nat_lit 0)), (V.tail (nat_lit 60) [] (nat_lit 0))])]) ([(102 : UInt8), (111 : UInt8), (108 : UInt8), (100 : UInt8)]) (w1) (false) e1 e2 e3) (cC (@splitW (line) hl) (cP h0 (cC (@hasNl (line)) nilE))))))))))))))) (by kernel_rfl) rfl rfl
set_option maxHeartbeats 4000000 in
theorem psFold2 : psFold2_T := by
  intro line w1 hl hn e1 e2 e3 w2 w3 b2 b3 n m s1 s2 g1 g2 g3 i1 i2 i3 hb hm
  have h0 : (hasC (10 : UInt8) line) = false := by (first | assumption | (((try simp only [SA] at *); (try simp (disch := omega) only [SB, reduceCtorEq] at *)) <;> first | omega | assumption | (refine ⟨?_, ?_⟩ <;> assumption) | (refine ⟨?_, ?_, ?_⟩ <;> assumption) | (intros; assumption) | (right; right; assumption) | (right; left; assumption) | (left; assumption)))
  have h1 : (b3) = false := by (first | assumption | (((try simp only [SA] at *); (try simp (disch := omega) only [SB, reduceCtorEq] at *)) <;> first | omega | assumption | (refine ⟨?_, ?_⟩ <;> assumption) | (refine ⟨?_, ?_, ?_⟩ <;> assumption) | (intros; assumption) | (right; right; assumption) | (right; left; assumption) | (left; assumption)))
  have h2 : (decide ((↑(List.length w3) : Int) > (0 : Int))) = true := by (first | assumption | (((try simp only [SA] at *); (try simp (disch := omega) only [SB, reduceCtorEq] at *)) <;> first | omega | assumption | (refine ⟨?_, ?_⟩ <;> assumption) | (refine ⟨?_, ?_, ?_⟩ <;> assumption) | (intros; assumption) | (right; right; assumption) | (right; left; assumption) | (left; assumption)))
  exact pV 12 [(0, .v (V.d (D.bool (hasC (10 : UInt8) line)))), (1, bf), (2, .v (V.d (strsD (pieces (32 : UInt8) line)))), (3, .c (V.d (D.str [(102 : UInt8), (111 : UInt8), (108 : UInt8), (100 : UInt8)])) ([(Ob.cells [(V.d (D.int IntKind.i64 (0 : Int))), (V.d (D.int IntKind.i64 (0 : Int))), (V.d (D.int IntKind.i64 (0 : Int))), (V.tail (nat_lit 48) [] (nat_lit 0)), (V.tail (nat_lit 3) [] (nat_lit 0)), (V.tail (nat_lit 60) [] (nat_lit 0))]), (rdO w1 false), (Ob.cells [(V.d (D.int IntKind.i64 (0 : Int))), (V.d (D.int IntKind.i64 (0 : Int))), (V.d (D.int IntKind.i64 (0 : Int))), (V.tail (nat_lit 48) [] (nat_lit 0)), (V.tail (nat_lit 3) [] (nat_lit 0)), (V.tail (nat_lit 60) [] (nat_lit 0))])])), (4, .v (V.d (D.bool ([(102 : UInt8), (111 : UInt8), (108 : UInt8), (100 : UInt8)] == [(101 : UInt8), (100 : UInt8), (105 : UInt8), (116 : UInt8)])))), (6, .v (V.d (D.bool ([(102 : UInt8), (111 : UInt8), (108 : UInt8), (100 : UInt8)] == [(102 : UInt8), (111 : UInt8), (108 : UInt8), (100 : UInt8)])))), (8, .c (V.d (D.int IntKind.i64 n)) ([(Ob.cells [(V.d (D.int IntKind.i64 (0 : Int))), (V.d (D.int IntKind.i64 (0 : Int))), (V.d (D.int IntKind.i64 (0 : Int))), (V.tail (nat_lit 48) [] (nat_lit 0)), (V.tail (nat_lit 3) [] (nat_lit 0)), (V.tail (nat_lit 60) [] (nat_lit 0))]), (rdO w2 b2), (Ob.cells [(V.d (D.int IntKind.i64 (2 : Int))), (V.d (D.int IntKind.i64 (0 : Int))), (V.d (D.int IntKind.i64 (0 : Int))), (V.tail (nat_lit 48) [] (nat_lit 0)), (V.tail (nat_lit 3) [] (nat_lit 0)), (V.tail (nat_lit 60) [] (nat_lit 0))])])), (9, .c (V.d (D.int IntKind.i64 m)) ([(Ob.cells [(V.d (D.int IntKind.i64 (0 : Int))), (V.d (D.int IntKind.i64 (0 : Int))), (V.d (D.int IntKind.i64 (0 : Int))), (V.tail (nat_lit 48) [] (nat_lit 0)), (V.tail (nat_lit 3) [] (nat_lit 0)), (V.tail (nat_lit 60) [] (nat_lit 0))]), (rdO w3 b3), (Ob.cells [(V.d (D.int IntKind.i64 (2 : Int))), (V.d (D.int IntKind.i64 (0 : Int))), (V.d (D.int IntKind.i64 (0 : Int))), (V.tail (nat_lit 48) [] (nat_lit 0)), (V.tail (nat_lit 3) [] (nat_lit 0)), (V.tail (nat_lit 60) [] (nat_lit 0))])])), (11, bf), (12, bf), (13, bf), (14, bf), (16, bf), (18, bf), (20, bf), (21, bt)] (cP h2 (cP h1 (cP h1 (cP h1 (cP h1 (cP h1 (cP h1 (cP h1 (cE (@numE (Ob.cells [(V.d (D.int IntKind.i64 (0 : Int))), (V.d (D.int IntKind.i64 (0 : Int))), (V.d (D.int IntKind.i64 (0 : Int))), (V.tail (nat_lit 48) [] (nat_lit 0)), (V.tail (nat_lit 3) [] (nat_lit 0)), (V.tail (nat_lit 60) [] (nat_lit 0))]) (w2) (b2) ([(Ob.cells [(V.d (D.int IntKind.i64 (2 : Int))), (V.d (D.int IntKind.i64 (0 : Int))), (V.d (D.int IntKind.i64 (0 : Int))), (V.tail (nat_lit 48) [] (nat_lit 0)), (V.tail (nat_lit 3) [] (nat_lit 0)), (V.tail (nat_lit 60) [] (nat_lit 0))])]) (m) (w3) (b3) s2 i1 i2 i3) (cE (@numE (Ob.cells [(V.d (D.int IntKind.i64 (0 : Int))), (V.d (D.int IntKind.i64 (0 : Int))), (V.d (D.int IntKind.i64 (0 : Int))), (V.tail (nat_lit 48) [] (nat_lit 0)), (V.tail (nat_lit 3) [] (nat_lit 0)), (V.tail (nat_lit 60) [] (nat_lit 0))]) (w1) (false) ([(Ob.cells [(V.d (D.int IntKind.i64 (2 : Int))), (V.d (D.int IntKind.i64 (0 : Int))), (V.d (D.int IntKind.i64 (0 : Int))), (V.tail (nat_lit 48) [] (nat_lit 0)), (V.tail (nat_lit 3) [] (nat_lit 0)), (V.tail (nat_lit 60) [] (nat_lit 0))])]) (n) (w2) (b2) s1 g1 g2 g3) (cP (@strEq ([(102 : UInt8), (111 : UInt8), (108 : UInt8), (100 : UInt8)]) ([(102 : UInt8), (111 : UInt8), (108 : UInt8), (100 : UInt8)])) (cP (@strEq ([(102 : UInt8), (111 : UInt8), (108 : UInt8), (100 : UInt8)]) ([(101 : UInt8), (100 : UInt8), (105 : UInt8), (116 : UInt8)])) (cE (@wordE (Ob.cells [(V.d (D.int IntKind.i64 (0 : Int))), (V.d (D.int IntKind.i64 (0 : Int))), (V.d (D.int IntKind.i64 (0 : Int))), (V.tail (nat_lit 48) [] (nat_lit 0)), (V.tail (nat_lit 3) [] (nat_lit 0)), (V.tail (nat_lit 60) [] (nat_lit 0))]) (pieces (32 : UInt8) line) (false) ([(Ob.cells [(V.d (D.int IntKind.i64 (0 : Int))), (V.d (D.int IntKind.i64 (0 : Int))), (V.d (D.int IntKind.i64 (0 : Int))), (V.tail (nat_lit 48) [] (nat_lit 0)), (V.tail (nat_lit 3) [] (nat_lit 0)), (V.tail (nat_lit 60) [] (nat_lit 0))])]) ([(102 : UInt8), (111 : UInt8), (108 : UInt8), (100 : UInt8)]) (w1) (false) e1 e2 e3) (cC (@splitW (line) hl) (cP h0 (cC (@hasNl (line)) nilE)))))))))))))))) (by kernel_rfl) rfl rfl
set_option maxHeartbeats 4000000 in
theorem psFold3 : psFold3_T := by
  intro line w1 hl hn e1 e2 e3 w2 w3 b2 b3 n m s1 s2 g1 g2 g3 i1 i2 i3 hb hm
  have h0 : (hasC (10 : UInt8) line) = false := by (first | assumption | (((try simp only [SA] at *); (try simp (disch := omega) only [SB, reduceCtorEq] at *)) <;> first | omega | assumption | (refine ⟨?_, ?_⟩ <;> assumption) | (refine ⟨?_, ?_, ?_⟩ <;> assumption) | (intros; assumption) | (right; right; assumption) | (right; left; assumption) | (left; assumption)))
  have h1 : (b3) = false := by (first | assumption | (((try simp only [SA] at *); (try simp (disch := omega) only [SB, reduceCtorEq] at *)) <;> first | omega | assumption | (refine ⟨?_, ?_⟩ <;> assumption) | (refine ⟨?_, ?_, ?_⟩ <;> assumption) | (intros; assumption) | (right; right; assumption) | (right; left; assumption) | (left; assumption)))
  have h2 : (decide ((↑(List.length w3) : Int) > (0 : Int))) = false := by (first | assumption | (((try simp only [SA] at *); (try simp (disch := omega) only [SB, reduceCtorEq] at *)) <;> first | omega | assumption | (refine ⟨?_, ?_⟩ <;> assumption) | (refine ⟨?_, ?_, ?_⟩ <;> assumption) | (intros; assumption) | (right; right; assumption) | (right; left; assumption) | (left; assumption)))
  exact pV 12 [(0, .v (V.d (D.bool (hasC (10 : UInt8) line)))), (1, bf), (2, .v (V.d (strsD (pieces (32 : UInt8) line)))), (3, .c (V.d (D.str [(102 : UInt8), (111 : UInt8), (108 : UInt8), (100 : UInt8)])) ([(Ob.cells [(V.d (D.int IntKind.i64 (0 : Int))), (V.d (D.int IntKind.i64 (0 : Int))), (V.d (D.int IntKind.i64 (0 : Int))), (V.tail (nat_lit 48) [] (nat_lit 0)), (V.tail (nat_lit 3) [] (nat_lit 0)), (V.tail (nat_lit 60) [] (nat_lit 0))]), (rdO w1 false), (Ob.cells [(V.d (D.int IntKind.i64 (0 : Int))), (V.d (D.int IntKind.i64 (0 : Int))), (V.d (D.int IntKind.i64 (0 : Int))), (V.tail (nat_lit 48) [] (nat_lit 0)), (V.tail (nat_lit 3) [] (nat_lit 0)), (V.tail (nat_lit 60) [] (nat_lit 0))])])), (4, .v (V.d (D.bool ([(102 : UInt8), (111 : UInt8), (108 : UInt8), (100 : UInt8)] == [(101 : UInt8), (100 : UInt8), (105 : UInt8), (116 : UInt8)])))), (6, .v (V.d (D.bool ([(102 : UInt8), (111 : UInt8), (108 : UInt8), (100 : UInt8)] == [(102 : UInt8), (111 : UInt8), (108 : UInt8), (100 : UInt8)])))), (8, .c (V.d (D.int IntKind.i64 n)) ([(Ob.cells [(V.d (D.int IntKind.i64 (0 : Int))), (V.d (D.int IntKind.i64 (0 : Int))), (V.d (D.int IntKind.i64 (0 : Int))), (V.tail (nat_lit 48) [] (nat_lit 0)), (V.tail (nat_lit 3) [] (nat_lit 0)), (V.tail (nat_lit 60) [] (nat_lit 0))]), (rdO w2 b2), (Ob.cells [(V.d (D.int IntKind.i64 (2 : Int))), (V.d (D.int IntKind.i64 (0 : Int))), (V.d (D.int IntKind.i64 (0 : Int))), (V.tail (nat_lit 48) [] (nat_lit 0)), (V.tail (nat_lit 3) [] (nat_lit 0)), (V.tail (nat_lit 60) [] (nat_lit 0))])])), (9, .c (V.d (D.int IntKind.i64 m)) ([(Ob.cells [(V.d (D.int IntKind.i64 (0 : Int))), (V.d (D.int IntKind.i64 (0 : Int))), (V.d (D.int IntKind.i64 (0 : Int))), (V.tail (nat_lit 48) [] (nat_lit 0)), (V.tail (nat_lit 3) [] (nat_lit 0)), (V.tail (nat_lit 60) [] (nat_lit 0))]), (rdO w3 b3), (Ob.cells [(V.d (D.int IntKind.i64 (2 : Int))), (V.d (D.int IntKind.i64 (0 : Int))), (V.d (D.int IntKind.i64 (0 : Int))), (V.tail (nat_lit 48) [] (nat_lit 0)), (V.tail (nat_lit 3) [] (nat_lit 0)), (V.tail (nat_lit 60) [] (nat_lit 0))])])), (11, bf), (12, bf), (13, bf), (14, bf), (16, bf), (18, bf), (20, bf), (21, bf)] (cP h2 (cP h1 (cP h1 (cP h1 (cP h1 (cP h1 (cP h1 (cP h1 (cE (@numE (Ob.cells [(V.d (D.int IntKind.i64 (0 : Int))), (V.d (D.int IntKind.i64 (0 : Int))), (V.d (D.int IntKind.i64 (0 : Int))), (V.tail (nat_lit 48) [] (nat_lit 0)), (V.tail (nat_lit 3) [] (nat_lit 0)), (V.tail (nat_lit 60) [] (nat_lit 0))]) (w2) (b2) ([(Ob.cells [(V.d (D.int IntKind.i64 (2 : Int))), (V.d (D.int IntKind.i64 (0 : Int))), (V.d (D.int IntKind.i64 (0 : Int))), (V.tail (nat_lit 48) [] (nat_lit 0)), (V.tail (nat_lit 3) [] (nat_lit 0)), (V.tail (nat_lit 60) [] (nat_lit 0))])]) (m) (w3) (b3) s2 i1 i2 i3) (cE (@numE (Ob.cells [(V.d (D.int IntKind.i64 (0 : Int))), (V.d (D.int IntKind.i64 (0 : Int))), (V.d (D.int IntKind.i64 (0 : Int))), (V.tail (nat_lit 48) [] (nat_lit 0)), (V.tail (nat_lit 3) [] (nat_lit 0)), (V.tail (nat_lit 60) [] (nat_lit 0))]) (w1) (false) ([(Ob.cells [(V.d (D.int IntKind.i64 (2 : Int))), (V.d (D.int IntKind.i64 (0 : Int))), (V.d (D.int IntKind.i64 (0 : Int))), (V.tail (nat_lit 48) [] (nat_lit 0)), (V.tail (nat_lit 3) [] (nat_lit 0)), (V.tail (nat_lit 60) [] (nat_lit 0))])]) (n) (w2) (b2) s1 g1 g2 g3) (cP (@strEq ([(102 : UInt8), (111 : UInt8), (108 : UInt8), (100 : UInt8)]) ([(102 : UInt8), (111 : UInt8), (108 : UInt8), (100 : UInt8)])) (cP (@strEq ([(102 : UInt8), (111 : UInt8), (108 : UInt8), (100 : UInt8)]) ([(101 : UInt8), (100 : UInt8), (105 : UInt8), (116 : UInt8)])) (cE (@wordE (Ob.cells [(V.d (D.int IntKind.i64 (0 : Int))), (V.d (D.int IntKind.i64 (0 : Int))), (V.d (D.int IntKind.i64 (0 : Int))), (V.tail (nat_lit 48) [] (nat_lit 0)), (V.tail (nat_lit 3) [] (nat_lit 0)), (V.tail (nat_lit 60) [] (nat_lit 0))]) (pieces (32 : UInt8) line) (false) ([(Ob.cells [(V.d (D.int IntKind.i64 (0 : Int))), (V.d (D.int IntKind.i64 (0 : Int))), (V.d (D.int IntKind.i64 (0 : Int))), (V.tail (nat_lit 48) [] (nat_lit 0)), (V.tail (nat_lit 3) [] (nat_lit 0)), (V.tail (nat_lit 60) [] (nat_lit 0))])]) ([(102 : UInt8), (111 : UInt8), (108 : UInt8), (100 : UInt8)]) (w1) (false) e1 e2 e3) (cC (@splitW (line) hl) (cP h0 (cC (@hasNl (line)) nilE)))))))))))))))) (by kernel_rfl) rfl rfl
set_option maxHeartbeats 4000000 in
theorem psUnfold1 : psUnfold1_T := by
  intro line w1 hl hn e1 e2 e3 w2 w3 b2 b3 n m s1 s2 g1 g2 g3 i1 i2 i3 hb
  have h0 : (hasC (10 : UInt8) line) = false := by (first | assumption | (((try simp only [SA] at *); (try simp (disch := omega) only [SB, reduceCtorEq] at *)) <;> first | omega | assumption | (refine ⟨?_, ?_⟩ <;> assumption) | (refine ⟨?_, ?_, ?_⟩ <;> assumption) | (intros; assumption) | (right; right; assumption) | (right; left; assumption) | (left; assumption)))
  have h1 : (b3) = true := by (first | assumption | (((try simp only [SA] at *); (try simp (disch := omega) only [SB, reduceCtorEq] at *)) <;> first | omega | assumption | (refine ⟨?_, ?_⟩ <;> assumption) | (refine ⟨?_, ?_, ?_⟩ <;> assumption) | (intros; assumption) | (right; right; assumption) | (right; left; assumption) | (left; assumption)))
  exact pV 12 [(0, .v (V.d (D.bool (hasC (10 : UInt8) line)))), (1, bf), (2, .v (V.d (strsD (pieces (32 : UInt8) line)))), (3, .c (V.d (D.str [(117 : UInt8), (110 : UInt8), (102 : UInt8), (111 : UInt8), (108 : UInt8), (100 : UInt8)])) ([(Ob.cells [(V.d (D.int IntKind.i64 (0 : Int))), (V.d (D.int IntKind.i64 (0 : Int))), (V.d (D.int IntKind.i64 (0 : Int))), (V.tail (nat_lit 48) [] (nat_lit 0)), (V.tail (nat_lit 3) [] (nat_lit 0)), (V.tail (nat_lit 60) [] (nat_lit 0))]), (rdO w1 false), (Ob.cells [(V.d (D.int IntKind.i64 (0 : Int))), (V.d (D.int IntKind.i64 (0 : Int))), (V.d (D.int IntKind.i64 (0 : Int))), (V.tail (nat_lit 48) [] (nat_lit 0)), (V.tail (nat_lit 3) [] (nat_lit 0)), (V.tail (nat_lit 60) [] (nat_lit 0))])])), (4, .v (V.d (D.bool ([(117 : UInt8), (110 : UInt8), (102 : UInt8), (111 : UInt8), (108 : UInt8), (100 : UInt8)] == [(101 : UInt8), (100 : UInt8), (105 : UInt8), (116 : UInt8)])))), (6, .v (V.d (D.bool ([(117 : UInt8), (110 : UInt8), (102 : UInt8), (111 : UInt8), (108 : UInt8), (100 : UInt8)] == [(102 : UInt8), (111 : UInt8), (108 : UInt8), (100 : UInt8)])))), (8, .v (V.d (D.bool ([(117 : UInt8), (110 : UInt8), (102 : UInt8), (111 : UInt8), (108 : UInt8), (100 : UInt8)] == [(117 : UInt8), (110 : UInt8), (102 : UInt8), (111 : UInt8), (108 : UInt8), (100 : UInt8)])))), (10, .c (V.d (D.int IntKind.i64 n)) ([(Ob.cells [(V.d (D.int IntKind.i64 (0 : Int))), (V.d (D.int IntKind.i64 (0 : Int))), (V.d (D.int IntKind.i64 (0 : Int))), (V.tail (nat_lit 48) [] (nat_lit 0)), (V.tail (nat_lit 3) [] (nat_lit 0)), (V.tail (nat_lit 60) [] (nat_lit 0))]), (rdO w2 b2), (Ob.cells [(V.d (D.int IntKind.i64 (3 : Int))), (V.d (D.int IntKind.i64 (0 : Int))), (V.d (D.int IntKind.i64 (0 : Int))), (V.tail (nat_lit 48) [] (nat_lit 0)), (V.tail (nat_lit 3) [] (nat_lit 0)), (V.tail (nat_lit 60) [] (nat_lit 0))])])), (11, .c (V.d (D.int IntKind.i64 m)) ([(Ob.cells [(V.d (D.int IntKind.i64 (0 : Int))), (V.d (D.int IntKind.i64 (0 : Int))), (V.d (D.int IntKind.i64 (0 : Int))), (V.tail (nat_lit 48) [] (nat_lit 0)), (V.tail (nat_lit 3) [] (nat_lit 0)), (V.tail (nat_lit 60) [] (nat_lit 0))]), (rdO w3 b3), (Ob.cells [(V.d (D.int IntKind.i64 (3 : Int))), (V.d (D.int IntKind.i64 (0 : Int))), (V.d (D.int IntKind.i64 (0 : Int))), (V.tail (nat_lit 48) [] (nat_lit 0)), (V.tail (nat_lit 3) [] (nat_lit 0)), (V.tail (nat_lit 60) [] (nat_lit 0))])])), (13, bt), (14, bt), (15, bt), (16, bt), (17, bt), (18, bt), (19, bt)] (cP h1 (cP h1 (cP h1 (cP h1 (cP h1 (cP h1 (cP h1 (cE (@numE (Ob.cells [(V.d (D.int IntKind.i64 (0 : Int))), (V.d (D.int IntKind.i64 (0 : Int))), (V.d (D.int IntKind.i64 (0 : Int))), (V.tail (nat_lit 48) [] (nat_lit 0)), (V.tail (nat_lit 3) [] (nat_lit 0)), (V.tail (nat_lit 60) [] (nat_lit 0))]) (w2) (b2) ([(Ob.cells [(V.d (D.int IntKind.i64 (3 : Int))), (V.d (D.int IntKind.i64 (0 : Int))), (V.d (D.int IntKind.i64 (0 : Int))), (V.tail (nat_lit 48) [] (nat_lit 0)), (V.tail (nat_lit 3) [] (nat_lit 0)), (V.tail (nat_lit 60) [] (nat_lit 0))])]) (m) (w3) (b3) s2 i1 i2 i3) (cE (@numE (Ob.cells [(V.d (D.int IntKind.i64 (0 : Int))), (V.d (D.int IntKind.i64 (0 : Int))), (V.d (D.int IntKind.i64 (0 : Int))), (V.tail (nat_lit 48) [] (nat_lit 0)), (V.tail (nat_lit 3) [] (nat_lit 0)), (V.tail (nat_lit 60) [] (nat_lit 0))]) (w1) (false) ([(Ob.cells [(V.d (D.int IntKind.i64 (3 : Int))), (V.d (D.int IntKind.i64 (0 : Int))), (V.d (D.int IntKind.i64 (0 : Int))), (V.tail (nat_lit 48) [] (nat_lit 0)), (V.tail (nat_lit 3) [] (nat_lit 0)), (V.tail (nat_lit 60) [] (nat_lit 0))])]) (n) (w2) (b2) s1 g1 g2 g3) (cP (@strEq ([(117 : UInt8), (110 : UInt8), (102 : UInt8), (111 : UInt8), (108 : UInt8), (100 : UInt8)]) ([(117 : UInt8), (110 : UInt8), (102 : UInt8), (111 : UInt8), (108 : UInt8), (100 : UInt8)])) (cP (@strEq ([(117 : UInt8), (110 : UInt8), (102 : UInt8), (111 : UInt8), (108 : UInt8), (100 : UInt8)]) ([(102 : UInt8), (111 : UInt8), (108 : UInt8), (100 : UInt8)])) (cP (@strEq ([(117 : UInt8), (110 : UInt8), (102 : UInt8), (111 : UInt8), (108 : UInt8), (100 : UInt8)]) ([(101 : UInt8), (100 : UInt8), (105 : UInt8), (116 : UInt8)])) (cE (@wordE (Ob.cells [(V.d (D.int IntKind.i64 (0 : Int))), (V.d (D.int IntKind.i64 (0 : Int))), (V.d (D.int IntKind.i64 (0 : Int))), (V.tail (nat_lit 48) [] (nat_lit 0)), (V.tail (nat_lit 3) [] (nat_lit 0)), (V.tail (nat_lit 60) [] (nat_lit 0))]) (pieces (32 : UInt8) line) (false) ([(Ob.cells [(V.d (D.int IntKind.i64 (0 : Int))), (V.d (D.int IntKind.i64 (0 : Int))), (V.d (D.int IntKind.i64 (0 : Int))), (V.tail (nat_lit 48) [] (nat_lit 0)), (V.tail (nat_lit 3) [] (nat_lit 0)), (V.tail (nat_lit 60) [] (nat_lit 0))])]) ([(117 : UInt8), (110 : UInt8), (102 : UInt8), (111 : UInt8), (108 : UInt8), (100 : UInt8)]) (w1) (false) e1 e2 e3) (cC (@splitW (line) hl) (cP h0 (cC (@hasNl (line)) nilE)))))))))))))))) (by kernel_rfl) rfl rfl
set_option maxHeartbeats 4000000 in
theorem psUnfold2 : psUnfold2_T := by
  intro line w1 hl hn e1 e2 e3 w2 w3 b2 b3 n m s1 s2 g1 g2 g3 i1 i2 i3 hb hm
  have h0 : (hasC (10 : UInt8) line) = false := by (first | assumption | (((try simp only [SA] at *); (try simp (disch := omega) only [SB, reduceCtorEq] at *)) <;> first | omega | assumption | (refine ⟨?_, ?_⟩ <;> assumption) | (refine ⟨?_, ?_, ?_⟩ <;> assumption) | (intros; assumption) | (right; right; assumption) | (right; left; assumption) | (left; assumption)))
  have h1 : (b3) = false := by (first | assumption | (((try simp only [SA] at *); (try simp (disch := omega) only [SB, reduceCtorEq] at *)) <;> first | omega | assumption | (refine ⟨?_, ?_⟩ <;> assumption) | (refine ⟨?_, ?_, ?_⟩ <;> assumption) | (intros; assumption) | (right; right; assumption) | (right; left; assumption) | (left; assumption)))
  have h2 : (decide ((↑(List.length w3) : Int) > (0 : Int))) = true := by (first | assumption | (((try simp only [SA] at *); (try simp (disch := omega) only [SB, reduceCtorEq] at *)) <;> first | omega | assumption | (refine ⟨?_, ?_⟩ <;> assumption) | (refine ⟨?_, ?_, ?_⟩ <;> assumption) | (intros; assumption) | (right; right; assumption) | (right; left; assumption) | (left; assumption)))
  exact pV 12 [(0, .v (V.d (D.bool (hasC (10 : UInt8) line)))), (1, bf), (2, .v (V.d (strsD (pieces (32 : UInt8) line)))), (3, .c (V.d (D.str [(117 : UInt8), (110 : UInt8), (102 : UInt8), (111 : UInt8), (108 : UInt8), (100 : UInt8)])) ([(Ob.cells [(V.d (D.int IntKind.i64 (0 : Int))), (V.d (D.int IntKind.i64 (0 : Int))), (V.d (D.int IntKind.i64 (0 : Int))), (V.tail (nat_lit 48) [] (nat_lit 0)), (V.tail (nat_lit 3) [] (nat_lit 0)), (V.tail (nat_lit 60) [] (nat_lit 0))]), (rdO w1 false), (Ob.cells [(V.d (D.int IntKind.i64 (0 : Int))), (V.d (D.int IntKind.i64 (0 : Int))), (V.d (D.int IntKind.i64 (0 : Int))), (V.tail (nat_lit 48) [] (nat_lit 0)), (V.tail (nat_lit 3) [] (nat_lit 0)), (V.tail (nat_lit 60) [] (nat_lit 0))])])), (4, .v (V.d (D.bool ([(117 : UInt8), (110 : UInt8), (102 : UInt8), (111 : UInt8), (108 : UInt8), (100 : UInt8)] == [(101 : UInt8), (100 : UInt8), (105 : UInt8), (116 : UInt8)])))), (6, .v (V.d (D.bool ([(117 : UInt8), (110 : UInt8), (102 : UInt8), (111 : UInt8), (108 : UInt8), (100 : UInt8)] == [(102 : UInt8), (111 : UInt8), (108 : UInt8), (100 : UInt8)])))), (8, .v (V.d (D.bool ([(117 : UInt8), (110 : UInt8), (102 : UInt8), (111 : UInt8), (108 : UInt8), (100 : UInt8)] == [(117 : UInt8), (110 : UInt8), (102 : UInt8), (111 : UInt8), (108 : UInt8), (100 : UInt8)])))), (10, .c (V.d (D.int IntKind.i64 n)) ([(Ob.cells [(V.d (D.int IntKind.i64 (0 : Int))), (V.d (D.int IntKind.i64 (0 : Int))), (V.d (D.int IntKind.i64 (0 : Int))), (V.tail (nat_lit 48) [] (nat_lit 0)), (V.tail (nat_lit 3) [] (nat_lit 0)), (V.tail (nat_lit 60) [] (nat_lit 0))]), (rdO w2 b2), (Ob.cells [(V.d (D.int IntKind.i64 (3 : Int))), (V.d (D.int IntKind.i64 (0 : Int))), (V.d (D.int IntKind.i64 (0 : Int))), (V.tail (nat_lit 48) [] (nat_lit 0)), (V.tail (nat_lit 3) [] (nat_lit 0)), (V.tail (nat_lit 60) [] (nat_lit 0))])])), (11, .c (V.d (D.int IntKind.i64 m)) ([(Ob.cells [(V.d (D.int IntKind.i64 (0 : Int))), (V.d (D.int IntKind.i64 (0 : Int))), (V.d (D.int IntKind.i64 (0 : Int))), (V.tail (nat_lit 48) [] (nat_lit 0)), (V.tail (nat_lit 3) [] (nat_lit 0)), (V.tail (nat_lit 60) [] (nat_lit 0))]), (rdO w3 b3), (Ob.cells [(V.d (D.int IntKind.i64 (3 : Int))), (V.d (D.int IntKind.i64 (0 : Int))), (V.d (D.int IntKind.i64 (0 : Int))), (V.tail (nat_lit 48) [] (nat_lit 0)), (V.tail (nat_lit 3) [] (nat_lit 0)), (V.tail (nat_lit 60) [] (nat_lit 0))])])), (13, bf), (14, bf), (15, bf), (16, bf), (18, bf), (20, bf), (22, bf), (23, bt)] (cP h2 (cP h1 (cP h1 (cP h1 (cP h1 (cP h1 (cP h1 (cP h1 (cE (@numE (Ob.cells [(V.d (D.int IntKind.i64 (0 : Int))), (V.d (D.int IntKind.i64 (0 : Int))), (V.d (D.int IntKind.i64 (0 : Int))), (V.tail (nat_lit 48) [] (nat_lit 0)), (V.tail (nat_lit 3) [] (nat_lit 0)), (V.tail (nat_lit 60) [] (nat_lit 0))]) (w2) (b2) ([(Ob.cells [(V.d (D.int IntKind.i64 (3 : Int))), (V.d (D.int IntKind.i64 (0 : Int))), (V.d (D.int IntKind.i64 (0 : Int))), (V.tail (nat_lit 48) [] (nat_lit 0)), (V.tail (nat_lit 3) [] (nat_lit 0)), (V.tail (nat_lit 60) [] (nat_lit 0))])]) (m) (w3) (b3) s2 i1 i2 i3) (cE (@numE (Ob.cells [(V.d (D.int IntKind.i64 (0 : Int))), (V.d (D.int IntKind.i64 (0 : Int))), (V.d (D.int IntKind.i64 (0 : Int))), (V.tail (nat_lit 48) [] (nat_lit 0)), (V.tail (nat_lit 3) [] (nat_lit 0)), (V.tail (nat_lit 60) [] (nat_lit 0))]) (w1) (false) ([(Ob.cells [(V.d (D.int IntKind.i64 (3 : Int))), (V.d (D.int IntKind.i64 (0 : Int))), (V.d (D.int IntKind.i64 (0 : Int))), (V.tail (nat_lit 48) [] (nat_lit 0)), (V.tail (nat_lit 3) [] (nat_lit 0)), (V.tail (nat_lit 60) [] (nat_lit 0))])]) (n) (w2) (b2) s1 g1 g2 g3) (cP (@strEq ([(117 : UInt8), (110 : UInt8), (102 : UInt8), (111 : UInt8), (108 : UInt8), (100 : UInt8)]) ([(117 : UInt8), (110 : UInt8), (102 : UInt8), (111 : UInt8), (108 : UInt8), (100 : UInt8)])) (cP (@strEq ([(117 : UInt8), (110 : UInt8), (102 : UInt8), (111 : UInt8), (108 : UInt8), (100 : UInt8)]) ([(102 : UInt8), (111 : UInt8), (108 : UInt8), (100 : UInt8)])) (cP (@strEq ([(117 : UInt8), (110 : UInt8), (102 : UInt8), (111 : UInt8), (108 : UInt8), (100 : UInt8)]) ([(101 : UInt8), (100 : UInt8), (105 : UInt8), (116 : UInt8)])) (cE (@wordE (Ob.cells [(V.d (D.int IntKind.i64 (0 : Int))), (V.d (D.int IntKind.i64 (0 : Int))), (V.d (D.int IntKind.i64 (0 : Int))), (V.tail (nat_lit 48) [] (nat_lit 0)), (V.tail (nat_lit 3) [] (nat_lit 0)), (V.tail (nat_lit 60) [] (nat_lit 0))]) (pieces (32 : UInt8) line) (false) ([(Ob.cells [(V.d (D.int IntKind.i64 (0 : Int))), (V.d (D.int IntKind.i64 (0 : Int))), (V.d (D.int IntKind.i64 (0 : Int))), (V.tail (nat_lit 48) [] (nat_lit 0)), (V.tail (nat_lit 3) [] (nat_lit 0)), (V.tail (nat_lit 60) [] (nat_lit 0))])]) ([(117 : UInt8), (110 : UInt8), (102 : UInt8), (111 : UInt8), (108 : UInt8), (100 : UInt8)]) (w1) (false) e1 e2 e3) (cC (@splitW (line) hl) (cP h0 (cC (@hasNl (line)) nilE))))))))))))))))) (by kernel_rfl) rfl rfl
set_option maxHeartbeats 4000000 in
theorem psUnfold3 : psUnfold3_T := by
  intro line w1 hl hn e1 e2 e3 w2 w3 b2 b3 n m s1 s2 g1 g2 g3 i1 i2 i3 hb hm
  have h0 : (hasC (10 : UInt8) line) = false := by (first | assumption | (((try simp only [SA] at *); (try simp (disch := omega) only [SB, reduceCtorEq] at *)) <;> first | omega | assumption | (refine ⟨?_, ?_⟩ <;> assumption) | (refine ⟨?_, ?_, ?_⟩ <;> assumption) | (intros; assumption) | (right; right; assumption) | (right; left; assumption) | (left; assumption)))
  have h1 : (b3) = false := by (first | assumption | (((try simp only [SA] at *); (try simp (disch := omega) only [SB, reduceCtorEq] at *)) <;> first | omega | assumption | (refine ⟨?_, ?_⟩ <;> assumption) | (refine ⟨?_, ?_, ?_⟩ <;> assumption) | (intros; assumption) | (right; right; assumption) | (right; left; assumption) | (left; assumption)))
  have h2 : (decide ((↑(List.length w3) : Int) > (0 : Int))) = false := by (first | assumption | (((try simp only [SA] at *); (try simp (disch := omega) only [SB, reduceCtorEq] at *)) <;> first | omega | assumption | (refine ⟨?_, ?_⟩ <;> assumption) | (refine ⟨?_, ?_, ?_⟩ <;> assumption) | (intros; assumption) | (right; right; assumption) | (right; left; assumption) | (left; assumption)))
  exact pV 12 [(0, .v (V.d (D.bool (hasC (10 : UInt8) line)))), (1, bf), (2, .v (V.d (strsD (pieces (32 : UInt8) line)))), (3, .c (V.d (D.str [(117 : UInt8), (110 : UInt8), (102 : UInt8), (111 : UInt8), (108 : UInt8), (100 : UInt8)])) ([(Ob.cells [(V.d (D.int IntKind.i64 (0 : Int))), (V.d (D.int IntKind.i64 (0 : Int))), (V.d (D.int IntKind.i64 (0 : Int))), (V.tail (nat_lit 48) [] (nat_lit 0)), (V.tail (nat_lit 3) [] (nat_lit 0)), (V.tail (nat_lit 60) [] (nat_lit 0))]), (rdO w1 false), (Ob.cells [(V.d (D.int IntKind.i64 (0 : Int))), (V.d (D.int IntKind.i64 (0 : Int))), (V.d (D.int IntKind.i64 (0 : Int))), (V.tail (nat_lit 48) [] (nat_lit 0)), (V.tail (nat_lit 3) [] (nat_lit 0)), (V.tail (nat_lit 60) [] (nat_lit 0))])])), (4, .v (V.d (D.bool ([(117 : UInt8), (110 : UInt8), (102 : UInt8), (111 : UInt8), (108 : UInt8), (100 : UInt8)] == [(101 : UInt8), (100 : UInt8), (105 : UInt8), (116 : UInt8)])))), (6, .v (V.d (D.bool ([(117 : UInt8), (110 : UInt8), (102 : UInt8), (111 : UInt8), (108 : UInt8), (100 : UInt8)] == [(102 : UInt8), (111 : UInt8), (108 : UInt8), (100 : UInt8)])))), (8, .v (V.d (D.bool ([(117 : UInt8), (110 : UInt8), (102 : UInt8), (111 : UInt8), (108 : UInt8), (100 : UInt8)] == [(117 : UInt8), (110 : UInt8), (102 : UInt8), (111 : UInt8), (108 : UInt8), (100 : UInt8)])))), (10, .c (V.d (D.int IntKind.i64 n)) ([(Ob.cells [(V.d (D.int IntKind.i64 (0 : Int))), (V.d (D.int IntKind.i64 (0 : Int))), (V.d (D.int IntKind.i64 (0 : Int))), (V.tail (nat_lit 48) [] (nat_lit 0)), (V.tail (nat_lit 3) [] (nat_lit 0)), (V.tail (nat_lit 60) [] (nat_lit 0))]), (rdO w2 b2), (Ob.cells [(V.d (D.int IntKind.i64 (3 : Int))), (V.d (D.int IntKind.i64 (0 : Int))), (V.d (D.int IntKind.i64 (0 : Int))), (V.tail (nat_lit 48) [] (nat_lit 0)), (V.tail (nat_lit 3) [] (nat_lit 0)), (V.tail (nat_lit 60) [] (nat_lit 0))])])), (11, .c (V.d (D.int IntKind.i64 m)) ([(Ob.cells [(V.d (D.int IntKind.i64 (0 : Int))), (V.d (D.int IntKind.i64 (0 : Int))), (V.d (D.int IntKind.i64 (0 : Int))), (V.tail (nat_lit 48) [] (nat_lit 0)), (V.tail (nat_lit 3) [] (nat_lit 0)), (V.tail (nat_lit 60) [] (nat_lit 0))]), (rdO w3 b3), (Ob.cells [(V.d (D.int IntKind.i64 (3 : Int))), (V.d (D.int IntKind.i64 (0 : Int))), (V.d (D.int IntKind.i64 (0 : Int))), (V.tail (nat_lit 48) [] (nat_lit 0)), (V.tail (nat_lit 3) [] (nat_lit 0)), (V.tail (nat_lit 60) [] (nat_lit 0))])])), (13, bf), (14, bf), (15, bf), (16, bf), (18, bf), (20, bf), (22, bf), (23, bf)] (cP h2 (cP h1 (cP h1 (cP h1 (cP h1 (cP h1 (cP h1 (cP h1 (cE (@numE (Ob.cells [(V.d (D.int IntKind.i64 (0 : Int))), (V.d (D.int IntKind.i64 (0 : Int))), (V.d (D.int IntKind.i64 (0 : Int))), (V.tail (nat_lit 48) [] (nat_lit 0)), (V.tail (nat_lit 3) [] (nat_lit 0)), (V.tail (nat_lit 60) [] (nat_lit 0))]) (w2) (b2) ([(Ob.cells [(V.d (D.int IntKind.i64 (3 : Int))), (V.d (D.int IntKind.i64 (0 : Int))), (V.d (D.int IntKind.i64 (0 : Int))), (V.tail (nat_lit 48) [] (nat_lit 0)), (V.tail (nat_lit 3) [] (nat_lit 0)), (V.tail (nat_lit 60) [] (nat_lit 0))])]) (m) (w3) (b3) s2 i1 i2 i3) (cE (@numE (Ob.cells [(V.d (D.int IntKind.i64 (0 : Int))), (V.d (D.int IntKind.i64 (0 : Int))), (V.d (D.int IntKind.i64 (0 : Int))), (V.tail (nat_lit 48) [] (nat_lit 0)), (V.tail (nat_lit 3) [] (nat_lit 0)), (V.tail (nat_lit 60) [] (nat_lit 0))]) (w1) (false) ([(Ob.cells [(V.d (D.int IntKind.i64 (3 : Int))), (V.d (D.int IntKind.i64 (0 : Int))), (V.d (D.int IntKind.i64 (0 : Int))), (V.tail (nat_lit 48) [] (nat_lit 0)), (V.tail (nat_lit 3) [] (nat_lit 0)), (V.tail (nat_lit 60) [] (nat_lit 0))])]) (n) (w2) (b2) s1 g1 g2 g3) (cP (@strEq ([(117 : UInt8), (110 : UInt8), (102 : UInt8), (111 : UInt8), (108 : UInt8), (100 : UInt8)]) ([(117 : UInt8), (110 : UInt8), (102 : UInt8), (111 : UInt8), (108 : UInt8), (100 : UInt8)])) (cP (@strEq ([(117 : UInt8), (110 : UInt8), (102 : UInt8), (111 : UInt8), (108 : UInt8), (100 : UInt8)]) ([(102 : UInt8), (111 : UInt8), (108 : UInt8), (100 : UInt8)])) (cP (@strEq ([(117 : UInt8), (110 : UInt8), (102 : UInt8), (111 : UInt8), (108 : UInt8), (100 : UInt8)]) ([(101 : UInt8), (100 : UInt8), (105 : UInt8), (116 : UInt8)])) (cE (@wordE (Ob.cells [(V.d (D.int IntKind.i64 (0 : Int))), (V.d (D.int IntKind.i64 (0 : Int))), (V.d (D.int IntKind.i64 (0 : Int))), (V.tail (nat_lit 48) [] (nat_lit 0)), (V.tail (nat_lit 3) [] (nat_lit 0)), (V.tail (nat_lit 60) [] (nat_lit 0))]) (pieces (32 : UInt8) line) (false) ([(Ob.cells [(V.d (D.int IntKind.i64 (0 : Int))), (V.d (D.int IntKind.i64 (0 : Int))), (V.d (D.int IntKind.i64 (0 : Int))), (V.tail (nat_lit 48) [] (nat_lit 0)), (V.tail (nat_lit 3) [] (nat_lit 0)), (V.tail (nat_lit 60) [] (nat_lit 0))])]) ([(117 : UInt8), (110 : UInt8), (102 : UInt8), (111 : UInt8), (108 : UInt8), (100 : UInt8)]) (w1) (false) e1 e2 e3) (cC (@splitW (line) hl) (cP h0 (cC (@hasNl (line)) nilE))))))))))))))))) (by kernel_rfl) rfl rfl
set_option maxHeartbeats 4000000 in
theorem psWidth1 : psWidth1_T := by
  intro line w1 hl hn e1 e2 e3 w2 b2 n s1 g1 g2 g3 hb
  have h0 : (hasC (10 : UInt8) line) = false := by (first | assumption | (((try simp only [SA] at *); (try simp (disch := omega) only [SB, reduceCtorEq] at *)) <;> first | omega | assumption | (refine ⟨?_, ?_⟩ <;> assumption) | (refine ⟨?_, ?_, ?_⟩ <;> assumption) | (intros; assumption) | (right; right; assumption) | (right; left; assumption) | (left; assumption)))
  have h1 : (b2) = true := by (first | assumption | (((try simp only [SA] at *); (try simp (disch := omega) only [SB, reduceCtorEq] at *)) <;> first | omega | assumption | (refine ⟨?_, ?_⟩ <;> assumption) | (refine ⟨?_, ?_, ?_⟩ <;> assumption) | (intros; assumption) | (right; right; assumption) | (right; left; assumption) | (left; assumption)))
  exact pV 12 [(0, .v (V.d (D.bool (hasC (10 : UInt8) line)))), (1, bf), (2, .v (V.d (strsD (pieces (32 : UInt8) line)))), (3, .c (V.d (D.str [(119 : UInt8), (105 : UInt8), (100 : UInt8), (116 : UInt8), (104 : UInt8)])) ([(Ob.cells [(V.d (D.int IntKind.i64 (0 : Int))), (V.d (D.int IntKind.i64 (0 : Int))), (V.d (D.int IntKind.i64 (0 : Int))), (V.tail (nat_lit 48) [] (nat_lit 0)), (V.tail (nat_lit 3) [] (nat_lit 0)), (V.tail (nat_lit 60) [] (nat_lit 0))]), (rdO w1 false), (Ob.cells [(V.d (D.int IntKind.i64 (0 : Int))), (V.d (D.int IntKind.i64 (0 : Int))), (V.d (D.int IntKind.i64 (0 : Int))), (V.tail (nat_lit 48) [] (nat_lit 0)), (V.tail (nat_lit 3) [] (nat_lit 0)), (V.tail (nat_lit 60) [] (nat_lit 0))])])), (4, .v (V.d (D.bool ([(119 : UInt8), (105 : UInt8), (100 : UInt8), (116 : UInt8), (104 : UInt8)] == [(101 : UInt8), (100 : UInt8), (105 : UInt8), (116 : UInt8)])))), (6, .v (V.d (D.bool ([(119 : UInt8), (105 : UInt8), (100 : UInt8), (116 : UInt8), (104 : UInt8)] == [(102 : UInt8), (111 : UInt8), (108 : UInt8), (100 : UInt8)])))), (8, .v (V.d (D.bool ([(119 : UInt8), (105 : UInt8), (100 : UInt8), (116 : UInt8), (104 : UInt8)] == [(117 : UInt8), (110 : UInt8), (102 : UInt8), (111 : UInt8), (108 : UInt8), (100 : UInt8)])))), (10, .v (V.d (D.bool ([(119 : UInt8), (105 : UInt8), (100 : UInt8), (116 : UInt8), (104 : UInt8)] == [(105 : UInt8), (110 : UInt8), (108 : UInt8), (97 : UInt8), (121 : UInt8)])))), (12, .v (V.d (D.bool ([(119 : UInt8), (105 : UInt8), (100 : UInt8), (116 : UInt8), (104 : UInt8)] == [(119 : UInt8), (105 : UInt8), (100 : UInt8), (116 : UInt8), (104 : UInt8)])))), (14, .c (V.d (D.int IntKind.i64 n)) ([(Ob.cells [(V.d (D.int IntKind.i64 (0 : Int))), (V.d (D.int IntKind.i64 (0 : Int))), (V.d (D.int IntKind.i64 (0 : Int))), (V.tail (nat_lit 48) [] (nat_lit 0)), (V.tail (nat_lit 3) [] (nat_lit 0)), (V.tail (nat_lit 60) [] (nat_lit 0))]), (rdO w2 b2), (Ob.cells [(V.d (D.int IntKind.i64 (0 : Int))), (V.d (D.int IntKind.i64 (0 : Int))), (V.d (D.int IntKind.i64 (0 : Int))), (V.tail (nat_lit 48) [] (nat_lit 0)), (V.tail (nat_lit 3) [] (nat_lit 0)), (V.tail (nat_lit 60) [] (nat_lit 0))])])), (16, bt), (17, bt), (18, bt), (19, bt), (20, bt), (21, bt), (22, bt)] (cP h1 (cP h1 (cP h1 (cP h1 (cP h1 (cP h1 (cP h1 (cE (@numE (Ob.cells [(V.d (D.int IntKind.i64 (0 : Int))), (V.d (D.int IntKind.i64 (0 : Int))), (V.d (D.int IntKind.i64 (0 : Int))), (V.tail (nat_lit 48) [] (nat_lit 0)), (V.tail (nat_lit 3) [] (nat_lit 0)), (V.tail (nat_lit 60) [] (nat_lit 0))]) (w1) (false) ([(Ob.cells [(V.d (D.int IntKind.i64 (0 : Int))), (V.d (D.int IntKind.i64 (0 : Int))), (V.d (D.int IntKind.i64 (0 : Int))), (V.tail (nat_lit 48) [] (nat_lit 0)), (V.tail (nat_lit 3) [] (nat_lit 0)), (V.tail (nat_lit 60) [] (nat_lit 0))])]) (n) (w2) (b2) s1 g1 g2 g3) (cP (@strEq ([(119 : UInt8), (105 : UInt8), (100 : UInt8), (116 : UInt8), (104 : UInt8)]) ([(119 : UInt8), (105 : UInt8), (100 : UInt8), (116 : UInt8), (104 : UInt8)])) (cP (@strEq ([(119 : UInt8), (105 : UInt8), (100 : UInt8), (116 : UInt8), (104 : UInt8)]) ([(105 : UInt8), (110 : UInt8), (108 : UInt8), (97 : UInt8), (121 : UInt8)])) (cP (@strEq ([(119 : UInt8), (105 : UInt8), (100 : UInt8), (116 : UInt8), (104 : UInt8)]) ([(117 : UInt8), (110 : UInt8), (102 : UInt8), (111 : UInt8), (108 : UInt8), (100 : UInt8)])) (cP (@strEq ([(119 : UInt8), (105 : UInt8), (100 : UInt8), (116 : UInt8), (104 : UInt8)]) ([(102 : UInt8), (111 : UInt8), (108 : UInt8), (100 : UInt8)])) (cP (@strEq ([(119 : UInt8), (105 : UInt8), (100 : UInt8), (116 : UInt8), (104 : UInt8)]) ([(101 : UInt8), (100 : UInt8), (105 : UInt8), (116 : UInt8)])) (cE (@wordE (Ob.cells [(V.d (D.int IntKind.i64 (0 : Int))), (V.d (D.int IntKind.i64 (0 : Int))), (V.d (D.int IntKind.i64 (0 : Int))), (V.tail (nat_lit 48) [] (nat_lit 0)), (V.tail (nat_lit 3) [] (nat_lit 0)), (V.tail (nat_lit 60) [] (nat_lit 0))]) (pieces (32 : UInt8) line) (false) ([(Ob.cells [(V.d (D.int IntKind.i64 (0 : Int))), (V.d (D.int IntKind.i64 (0 : Int))), (V.d (D.int IntKind.i64 (0 : Int))), (V.tail (nat_lit 48) [] (nat_lit 0)), (V.tail (nat_lit 3) [] (nat_lit 0)), (V.tail (nat_lit 60) [] (nat_lit 0))])]) ([(119 : UInt8), (105 : UInt8), (100 : UInt8), (116 : UInt8), (104 : UInt8)]) (w1) (false) e1 e2 e3) (cC (@splitW (line) hl) (cP h0 (cC (@hasNl (line)) nilE))))))))))))))))) (by kernel_rfl) rfl rfl
set_option maxHeartbeats 4000000 in
theorem psWidth2 : psWidth2_T := by
  intro line w1 hl hn e1 e2 e3 w2 b2 n s1 g1 g2 g3 hb hm
  have h0 : (hasC (10 : UInt8) line) = false := by (first | assumption | (((try simp only [SA] at *); (try simp (disch := omega) only [SB, reduceCtorEq] at *)) <;> first | omega | assumption | (refine ⟨?_, ?_⟩ <;> assumption) | (refine ⟨?_, ?_, ?_⟩ <;> assumption) | (intros; assumption) | (right; right; assumption) | (right; left; assumption) | (left; assumption)))
  have h1 : (b2) = false := by (first | assumption | (((try simp only [SA] at *); (try simp (disch := omega) only [SB, reduceCtorEq] at *)) <;> first | omega | assumption | (refine ⟨?_, ?_⟩ <;> assumption) | (refine ⟨?_, ?_, ?_⟩ <;> assumption) | (intros; assumption) | (right; right; assumption) | (right; left; assumption) | (left; assumption)))
  have h2 : (decide ((↑(List.length w2) : Int) > (0 : Int))) = true := by (first | assumption | (((try simp only [SA] at *); (try simp (disch := omega) only [SB, reduceCtorEq] at *)) <;> first | omega | assumption | (refine ⟨?_, ?_⟩ <;> assumption) | (refine ⟨?_, ?_, ?_⟩ <;> assumption) | (intros; assumption) | (right; right; assumption) | (right; left; assumption) | (left; assumption)))
  exact pV 12 [(0, .v (V.d (D.bool (hasC (10 : UInt8) line)))), (1, bf), (2, .v (V.d (strsD (pieces (32 : UInt8) line)))), (3, .c (V.d (D.str [(119 : UInt8), (105 : UInt8), (100 : UInt8), (116 : UInt8), (104 : UInt8)])) ([(Ob.cells [(V.d (D.int IntKind.i64 (0 : Int))), (V.d (D.int IntKind.i64 (0 : Int))), (V.d (D.int IntKind.i64 (0 : Int))), (V.tail (nat_lit 48) [] (nat_lit 0)), (V.tail (nat_lit 3) [] (nat_lit 0)), (V.tail (nat_lit 60) [] (nat_lit 0))]), (rdO w1 false), (Ob.cells [(V.d (D.int IntKind.i64 (0 : Int))), (V.d (D.int IntKind.i64 (0 : Int))), (V.d (D.int IntKind.i64 (0 : Int))), (V.tail (nat_lit 48) [] (nat_lit 0)), (V.tail (nat_lit 3) [] (nat_lit 0)), (V.tail (nat_lit 60) [] (nat_lit 0))])])), (4, .v (V.d (D.bool ([(119 : UInt8), (105 : UInt8), (100 : UInt8), (116 : UInt8), (104 : UInt8)] == [(101 : UInt8), (100 : UInt8), (105 : UInt8), (116 : UInt8)])))), (6, .v (V.d (D.bool ([(119 : UInt8), (105 : UInt8), (100 : UInt8), (116 : UInt8), (104 : UInt8)] == [(102 : UInt8), (111 : UInt8), (108 : UInt8), (100 : UInt8)])))), (8, .v (V.d (D.bool ([(119 : UInt8), (105 : UInt8), (100 : UInt8), (116 : UInt8), (104 : UInt8)] == [(117 : UInt8), (110 : UInt8), (102 : UInt8), (111 : UInt8), (108 : UInt8), (100 : UInt8)])))), (10, .v (V.d (D.bool ([(119 : UInt8), (105 : UInt8), (100 : UInt8), (116 : UInt8), (104 : UInt8)] == [(105 : UInt8), (110 : UInt8), (108 : UInt8), (97 : UInt8), (121 : UInt8)])))), (12, .v (V.d (D.bool ([(119 : UInt8), (105 : UInt8), (100 : UInt8), (116 : UInt8), (104 : UInt8)] == [(119 : UInt8), (105 : UInt8), (100 : UInt8), (116 : UInt8), (104 : UInt8)])))), (14, .c (V.d (D.int IntKind.i64 n)) ([(Ob.cells [(V.d (D.int IntKind.i64 (0 : Int))), (V.d (D.int IntKind.i64 (0 : Int))), (V.d (D.int IntKind.i64 (0 : Int))), (V.tail (nat_lit 48) [] (nat_lit 0)), (V.tail (nat_lit 3) [] (nat_lit 0)), (V.tail (nat_lit 60) [] (nat_lit 0))]), (rdO w2 b2), (Ob.cells [(V.d (D.int IntKind.i64 (0 : Int))), (V.d (D.int IntKind.i64 (0 : Int))), (V.d (D.int IntKind.i64 (0 : Int))), (V.tail (nat_lit 48) [] (nat_lit 0)), (V.tail (nat_lit 3) [] (nat_lit 0)), (V.tail (nat_lit 60) [] (nat_lit 0))])])), (16, bf), (17, bf), (18, bf), (19, bf), (21, bf), (23, bf), (25, bf), (26, bt)] (cP h2 (cP h1 (cP h1 (cP h1 (cP h1 (cP h1 (cP h1 (cP h1 (cE (@numE (Ob.cells [(V.d (D.int IntKind.i64 (0 : Int))), (V.d (D.int IntKind.i64 (0 : Int))), (V.d (D.int IntKind.i64 (0 : Int))), (V.tail (nat_lit 48) [] (nat_lit 0)), (V.tail (nat_lit 3) [] (nat_lit 0)), (V.tail (nat_lit 60) [] (nat_lit 0))]) (w1) (false) ([(Ob.cells [(V.d (D.int IntKind.i64 (0 : Int))), (V.d (D.int IntKind.i64 (0 : Int))), (V.d (D.int IntKind.i64 (0 : Int))), (V.tail (nat_lit 48) [] (nat_lit 0)), (V.tail (nat_lit 3) [] (nat_lit 0)), (V.tail (nat_lit 60) [] (nat_lit 0))])]) (n) (w2) (b2) s1 g1 g2 g3) (cP (@strEq ([(119 : UInt8), (105 : UInt8), (100 : UInt8), (116 : UInt8), (104 : UInt8)]) ([(119 : UInt8), (105 : UInt8), (100 : UInt8), (116 : UInt8), (104 : UInt8)])) (cP (@strEq ([(119 : UInt8), (105 : UInt8), (100 : UInt8), (116 : UInt8), (104 : UInt8)]) ([(105 : UInt8), (110 : UInt8), (108 : UInt8), (97 : UInt8), (121 : UInt8)])) (cP (@strEq ([(119 : UInt8), (105 : UInt8), (100 : UInt8), (116 : UInt8), (104 : UInt8)]) ([(117 : UInt8), (110 : UInt8), (102 : UInt8), (111 : UInt8), (108 : UInt8), (100 : UInt8)])) (cP (@strEq ([(119 : UInt8), (105 : UInt8), (100 : UInt8), (116 : UInt8), (104 : UInt8)]) ([(102 : UInt8), (111 : UInt8), (108 : UInt8), (100 : UInt8)])) (cP (@strEq ([(119 : UInt8), (105 : UInt8), (100 : UInt8), (116 : UInt8), (104 : UInt8)]) ([(101 : UInt8), (100 : UInt8), (105 : UInt8), (116 : UInt8)])) (cE (@wordE (Ob.cells [(V.d (D.int IntKind.i64 (0 : Int))), (V.d (D.int IntKind.i64 (0 : Int))), (V.d (D.int IntKind.i64 (0 : Int))), (V.tail (nat_lit 48) [] (nat_lit 0)), (V.tail (nat_lit 3) [] (nat_lit 0)), (V.tail (nat_lit 60) [] (nat_lit 0))]) (pieces (32 : UInt8) line) (false) ([(Ob.cells [(V.d (D.int IntKind.i64 (0 : Int))), (V.d (D.int IntKind.i64 (0 : Int))), (V.d (D.int IntKind.i64 (0 : Int))), (V.tail (nat_lit 48) [] (nat_lit 0)), (V.tail (nat_lit 3) [] (nat_lit 0)), (V.tail (nat_lit 60) [] (nat_lit 0))])]) ([(119 : UInt8), (105 : UInt8), (100 : UInt8), (116 : UInt8), (104 : UInt8)]) (w1) (false) e1 e2 e3) (cC (@splitW (line) hl) (cP h0 (cC (@hasNl (line)) nilE)))))))))))))))))) (by kernel_rfl) rfl rfl
set_option maxHeartbeats 4000000 in
theorem psWidth3 : psWidth3_T := by
  intro line w1 hl hn e1 e2 e3 w2 b2 n s1 g1 g2 g3 hb hm
  have h0 : (hasC (10 : UInt8) line) = false := by (first | assumption | (((try simp only [SA] at *); (try simp (disch := omega) only [SB, reduceCtorEq] at *)) <;> first | omega | assumption | (refine ⟨?_, ?_⟩ <;> assumption) | (refine ⟨?_, ?_, ?_⟩ <;> assumption) | (intros; assumption) | (right; right; assumption) | (right; left; assumption) | (left; assumption)))
  have h1 : (b2) = false := by (first | assumption | (((try simp only [SA] at *); (try simp (disch := omega) only [SB, reduceCtorEq] at *)) <;> first | omega | assumption | (refine ⟨?_, ?_⟩ <;> assumption) | (refine ⟨?_, ?_, ?_⟩ <;> assumption) | (intros; assumption) | (right; right; assumption) | (right; left; assumption) | (left; assumption)))
  have h2 : (decide ((↑(List.length w2) : Int) > (0 : Int))) = false := by (first | assumption | (((try simp only [SA] at *); (try simp (disch := omega) only [SB, reduceCtorEq] at *)) <;> first | omega | assumption | (refine ⟨?_, ?_⟩ <;> assumption) | (refine ⟨?_, ?_, ?_⟩ <;> assumption) | (intros; assumption) | (right; right; assumption) | (right; left; assumption) | (left; assumption)))
  exact pV 12 [(0, .v (V.d (D.bool (hasC (10 : UInt8) line)))), (1, bf), (2, .v (V.d (strsD (pieces (32 : UInt8) line)))), (3, .c (V.d (D.str [(119 : UInt8), (105 : UInt8), (100 : UInt8), (116 : UInt8), (104 : UInt8)])) ([(Ob.cells [(V.d (D.int IntKind.i64 (0 : Int))), (V.d (D.int IntKind.i64 (0 : Int))), (V.d (D.int IntKind.i64 (0 : Int))), (V.tail (nat_lit 48) [] (nat_lit 0)), (V.tail (nat_lit 3) [] (nat_lit 0)), (V.tail (nat_lit 60) [] (nat_lit 0))]), (rdO w1 false), (Ob.cells [(V.d (D.int IntKind.i64 (0 : Int))), (V.d (D.int IntKind.i64 (0 : Int))), (V.d (D.int IntKind.i64 (0 : Int))), (V.tail (nat_lit 48) [] (nat_lit 0)), (V.tail (nat_lit 3) [] (nat_lit 0)), (V.tail (nat_lit 60) [] (nat_lit 0))])])), (4, .v (V.d (D.bool ([(119 : UInt8), (105 : UInt8), (100 : UInt8), (116 : UInt8), (104 : UInt8)] == [(101 : UInt8), (100 : UInt8), (105 : UInt8), (116 : UInt8)])))), (6, .v (V.d (D.bool ([(119 : UInt8), (105 : UInt8), (100 : UInt8), (116 : UInt8), (104 : UInt8)] == [(102 : UInt8), (111 : UInt8), (108 : UInt8), (100 : UInt8)])))), (8, .v (V.d (D.bool ([(119 : UInt8), (105 : UInt8), (100 : UInt8), (116 : UInt8), (104 : UInt8)] == [(117 : UInt8), (110 : UInt8), (102 : UInt8), (111 : UInt8), (108 : UInt8), (100 : UInt8)])))), (10, .v (V.d (D.bool ([(119 : UInt8), (105 : UInt8), (100 : UInt8), (116 : UInt8), (104 : UInt8)] == [(105 : UInt8), (110 : UInt8), (108 : UInt8), (97 : UInt8), (121 : UInt8)])))), (12, .v (V.d (D.bool ([(119 : UInt8), (105 : UInt8), (100 : UInt8), (116 : UInt8), (104 : UInt8)] == [(119 : UInt8), (105 : UInt8), (100 : UInt8), (116 : UInt8), (104 : UInt8)])))), (14, .c (V.d (D.int IntKind.i64 n)) ([(Ob.cells [(V.d (D.int IntKind.i64 (0 : Int))), (V.d (D.int IntKind.i64 (0 : Int))), (V.d (D.int IntKind.i64 (0 : Int))), (V.tail (nat_lit 48) [] (nat_lit 0)), (V.tail (nat_lit 3) [] (nat_lit 0)), (V.tail (nat_lit 60) [] (nat_lit 0))]), (rdO w2 b2), (Ob.cells [(V.d (D.int IntKind.i64 (0 : Int))), (V.d (D.int IntKind.i64 (0 : Int))), (V.d (D.int IntKind.i64 (0 : Int))), (V.tail (nat_lit 48) [] (nat_lit 0)), (V.tail (nat_lit 3) [] (nat_lit 0)), (V.tail (nat_lit 60) [] (nat_lit 0))])])), (16, bf), (17, bf), (18, bf), (19, bf), (21, bf), (23, bf), (25, bf), (26, bf)] (cP h2 (cP h1 (cP h1 (cP h1 (cP h1 (cP h1 (cP h1 (cP h1 (cE (@numE (Ob.cells [(V.d (D.int IntKind.i64 (0 : Int))), (V.d (D.int IntKind.i64 (0 : Int))), (V.d (D.int IntKind.i64 (0 : Int))), (V.tail (nat_lit 48) [] (nat_lit 0)), (V.tail (nat_lit 3) [] (nat_lit 0)), (V.tail (nat_lit 60) [] (nat_lit 0))]) (w1) (false) ([(Ob.cells [(V.d (D.int IntKind.i64 (0 : Int))), (V.d (D.int IntKind.i64 (0 : Int))), (V.d (D.int IntKind.i64 (0 : Int))), (V.tail (nat_lit 48) [] (nat_lit 0)), (V.tail (nat_lit 3) [] (nat_lit 0)), (V.tail (nat_lit 60) [] (nat_lit 0))])]) (n) (w2) (b2) s1 g1 g2 g3) (cP (@strEq ([(119 : UInt8), (105 : UInt8), (100 : UInt8), (116 : UInt8), (104 : UInt8)]) ([(119 : UInt8), (105 : UInt8), (100 : UInt8), (116 : UInt8), (104 : UInt8)])) (cP (@strEq ([(119 : UInt8), (105 : UInt8), (100 : UInt8), (116 : UInt8), (104 : UInt8)]) ([(105 : UInt8), (110 : UInt8), (108 : UInt8), (97 : UInt8), (121 : UInt8)])) (cP (@strEq ([(119 : UInt8), (105 : UInt8), (100 : UInt8), (116 : UInt8), (104 : UInt8)]) ([(117 : UInt8), (110 : UInt8), (102 : UInt8), (111 : UInt8), (108 : UInt8), (100 : UInt8)])) (cP (@strEq ([(119 : UInt8), (105 : UInt8), (100 : UInt8), (116 : UInt8), (104 : UInt8)]) ([(102 : UInt8), (111 : UInt8), (108 : UInt8), (100 : UInt8)])) (cP (@strEq ([(119 : UInt8), (105 : UInt8), (100 : UInt8), (116 : UInt8), (104 : UInt8)]) ([(101 : UInt8), (100 : UInt8), (105 : UInt8), (116 : UInt8)])) (cE (@wordE (Ob.cells [(V.d (D.int IntKind.i64 (0 : Int))), (V.d (D.int IntKind.i64 (0 : Int))), (V.d (D.int IntKind.i64 (0 : Int))), (V.tail (nat_lit 48) [] (nat_lit 0)), (V.tail (nat_lit 3) [] (nat_lit 0)), (V.tail (nat_lit 60) [] (nat_lit 0))]) (pieces (32 : UInt8) line) (false) ([(Ob.cells [(V.d (D.int IntKind.i64 (0 : Int))), (V.d (D.int IntKind.i64 (0 : Int))), (V.d (D.int IntKind.i64 (0 : Int))), (V.tail (nat_lit 48) [] (nat_lit 0)), (V.tail (nat_lit 3) [] (nat_lit 0)), (V.tail (nat_lit 60) [] (nat_lit 0))])]) ([(119 : UInt8), (105 : UInt8), (100 : UInt8), (116 : UInt8), (104 : UInt8)]) (w1) (false) e1 e2 e3) (cC (@splitW (line) hl) (cP h0 (cC (@hasNl (line)) nilE)))))))))))))))))) (by kernel_rfl) rfl rfl
set_option maxHeartbeats 4000000 in
theorem psTab1 : psTab1_T := by
  intro line w1 hl hn e1 e2 e3 w2 b2 n s1 g1 g2 g3 hb
  have h0 : (hasC (10 : UInt8) line) = false := by (first | assumption | (((try simp only [SA] at *); (try simp (disch := omega) only [SB, reduceCtorEq] at *)) <;> first | omega | assumption | (refine ⟨?_, ?_⟩ <;> assumption) | (refine ⟨?_, ?_, ?_⟩ <;> assumption) | (intros; assumption) | (right; right; assumption) | (right; left; assumption) | (left; assumption)))
  have h1 : (b2) = true := by (first | assumption | (((try simp only [SA] at *); (try simp (disch := omega) only [SB, reduceCtorEq] at *)) <;> first | omega | assumption | (refine ⟨?_, ?_⟩ <;> assumption) | (refine ⟨?_, ?_, ?_⟩ <;> assumption) | (intros; assumption) | (right; right; assumption) | (right; left; assumption) | (left; assumption)))
  exact pV 12 [(0, .v (V.d (D.bool (hasC (10 : UInt8) line)))), (1, bf), (2, .v (V.d (strsD (pieces (32 : UInt8) line)))), (3, .c (V.d (D.str [(116 : UInt8), (97 : UInt8), (98 : UInt8)])) ([(Ob.cells [(V.d (D.int IntKind.i64 (0 : Int))), (V.d (D.int IntKind.i64 (0 : Int))), (V.d (D.int IntKind.i64 (0 : Int))), (V.tail (nat_lit 48) [] (nat_lit 0)), (V.tail (nat_lit 3) [] (nat_lit 0)), (V.tail (nat_lit 60) [] (nat_lit 0))]), (rdO w1 false), (Ob.cells [(V.d (D.int IntKind.i64 (0 : Int))), (V.d (D.int IntKind.i64 (0 : Int))), (V.d (D.int IntKind.i64 (0 : Int))), (V.tail (nat_lit 48) [] (nat_lit 0)), (V.tail (nat_lit 3) [] (nat_lit 0)), (V.tail (nat_lit 60) [] (nat_lit 0))])])), (4, .v (V.d (D.bool ([(116 : UInt8), (97 : UInt8), (98 : UInt8)] == [(101 : UInt8), (100 : UInt8), (105 : UInt8), (116 : UInt8)])))), (6, .v (V.d (D.bool ([(116 : UInt8), (97 : UInt8), (98 : UInt8)] == [(102 : UInt8), (111 : UInt8), (108 : UInt8), (100 : UInt8)])))), (8, .v (V.d (D.bool ([(116 : UInt8), (97 : UInt8), (98 : UInt8)] == [(117 : UInt8), (110 : UInt8), (102 : UInt8), (111 : UInt8), (108 : UInt8), (100 : UInt8)])))), (10, .v (V.d (D.bool ([(116 : UInt8), (97 : UInt8), (98 : UInt8)] == [(105 : UInt8), (110 : UInt8), (108 : UInt8), (97 : UInt8), (121 : UInt8)])))), (12, .v (V.d (D.bool ([(116 : UInt8), (97 : UInt8), (98 : UInt8)] == [(119 : UInt8), (105 : UInt8), (100 : UInt8), (116 : UInt8), (104 : UInt8)])))), (14, .v (V.d (D.bool ([(116 : UInt8), (97 : UInt8), (98 : UInt8)] == [(116 : UInt8), (97 : UInt8), (98 : UInt8)])))), (16, .c (V.d (D.int IntKind.i64 n)) ([(Ob.cells [(V.d (D.int IntKind.i64 (0 : Int))), (V.d (D.int IntKind.i64 (0 : Int))), (V.d (D.int IntKind.i64 (0 : Int))), (V.tail (nat_lit 48) [] (nat_lit 0)), (V.tail (nat_lit 3) [] (nat_lit 0)), (V.tail (nat_lit 60) [] (nat_lit 0))]), (rdO w2 b2), (Ob.cells [(V.d (D.int IntKind.i64 (0 : Int))), (V.d (D.int IntKind.i64 (0 : Int))), (V.d (D.int IntKind.i64 (0 : Int))), (V.tail (nat_lit 48) [] (nat_lit 0)), (V.tail (nat_lit 3) [] (nat_lit 0)), (V.tail (nat_lit 60) [] (nat_lit 0))])])), (18, bt), (19, bt), (20, bt), (21, bt), (22, bt), (23, bt), (24, bt)] (cP h1 (cP h1 (cP h1 (cP h1 (cP h1 (cP h1 (cP h1 (cE (@numE (Ob.cells [(V.d (D.int IntKind.i64 (0 : Int))), (V.d (D.int IntKind.i64 (0 : Int))), (V.d (D.int IntKind.i64 (0 : Int))), (V.tail (nat_lit 48) [] (nat_lit 0)), (V.tail (nat_lit 3) [] (nat_lit 0)), (V.tail (nat_lit 60) [] (nat_lit 0))]) (w1) (false) ([(Ob.cells [(V.d (D.int IntKind.i64 (0 : Int))), (V.d (D.int IntKind.i64 (0 : Int))), (V.d (D.int IntKind.i64 (0 : Int))), (V.tail (nat_lit 48) [] (nat_lit 0)), (V.tail (nat_lit 3) [] (nat_lit 0)), (V.tail (nat_lit 60) [] (nat_lit 0))])]) (n) (w2) (b2) s1 g1 g2 g3) (cP (@strEq ([(116 : UInt8), (97 : UInt8), (98 : UInt8)]) ([(116 : UInt8), (97 : UInt8), (98 : UInt8)])) (cP (@strEq ([(116 : UInt8), (97 : UInt8), (98 : UInt8)]) ([(119 : UInt8), (105 : UInt8), (100 : UInt8), (116 : UInt8), (104 : UInt8)])) (cP (@strEq ([(116 : UInt8), (97 : UInt8), (98 : UInt8)]) ([(105 : UInt8), (110 : UInt8), (108 : UInt8), (97 : UInt8), (121 : UInt8)])) (cP (@strEq ([(116 : UInt8), (97 : UInt8), (98 : UInt8)]) ([(117 : UInt8), (110 : UInt8), (102 : UInt8), (111 : UInt8), (108 : UInt8), (100 : UInt8)])) (cP (@strEq ([(116 : UInt8), (97 : UInt8), (98 : UInt8)]) ([(102 : UInt8), (111 : UInt8), (108 : UInt8), (100 : UInt8)])) (cP (@strEq ([(116 : UInt8), (97 : UInt8), (98 : UInt8)]) ([(101 : UInt8), (100 : UInt8), (105 : UInt8), (116 : UInt8)])) (cE (@wordE (Ob.cells [(V.d (D.int IntKind.i64 (0 : Int))), (V.d (D.int IntKind.i64 (0 : Int))), (V.d (D.int IntKind.i64 (0 : Int))), (V.tail (nat_lit 48) [] (nat_lit 0)), (V.tail (nat_lit 3) [] (nat_lit 0)), (V.tail (nat_lit 60) [] (nat_lit 0))]) (pieces (32 : UInt8) line) (false) ([(Ob.cells [(V.d (D.int IntKind.i64 (0 : Int))), (V.d (D.int IntKind.i64 (0 : Int))), (V.d (D.int IntKind.i64 (0 : Int))), (V.tail (nat_lit 48) [] (nat_lit 0)), (V.tail (nat_lit 3) [] (nat_lit 0)), (V.tail (nat_lit 60) [] (nat_lit 0))])]) ([(116 : UInt8), (97 : UInt8), (98 : UInt8)]) (w1) (false) e1 e2 e3) (cC (@splitW (line) hl) (cP h0 (cC (@hasNl (line)) nilE)))))))))))))))))) (by kernel_rfl) rfl rfl
set_option maxHeartbeats 4000000 in
theorem psTab2 : psTab2_T := by
  intro line w1 hl hn e1 e2 e3 w2 b2 n s1 g1 g2 g3 hb hm
  have h0 : (hasC (10 : UInt8) line) = false := by (first | assumption | (((try simp only [SA] at *); (try simp (disch := omega) only [SB, reduceCtorEq] at *)) <;> first | omega | assumption | (refine ⟨?_, ?_⟩ <;> assumption) | (refine ⟨?_, ?_, ?_⟩ <;> assumption) | (intros; assumption) | (right; right; assumption) | (right; left; assumption) | (left; assumption)))
  have h1 : (b2) = false := by (first | assumption | (((try simp only [SA] at *); (try simp (disch := omega) only [SB, reduceCtorEq] at *)) <;> first | omega | assumption | (refine ⟨?_, ?_⟩ <;> assumption) | (refine ⟨?_, ?_, ?_⟩ <;> assumption) | (intros; assumption) | (right; right; assumption) | (right; left; assumption) | (left; assumption)))
  have h2 : (decide ((↑(List.length w2) : Int) > (0 : Int))) = true := by (first | assumption | (((try simp only [SA] at *); (try simp (disch := omega) only [SB, reduceCtorEq] at *)) <;> first | omega | assumption | (refine ⟨?_, ?_⟩ <;> assumption) | (refine ⟨?_, ?_, ?_⟩ <;> assumption) | (intros; assumption) | (right; right; assumption) | (right; left; assumption) | (left; assumption)))
  exact pV 12 [(0, .v (V.d (D.bool (hasC (10 : UInt8) line)))), (1, bf), (2, .v (V.d (strsD (pieces (32 : UInt8) line)))), (3, .c (V.d (D.str [(116 : UInt8), (97 : UInt8), (98 : UInt8)])) ([(Ob.cells [(V.d (D.int IntKind.i64 (0 : Int))), (V.d (D.int IntKind.i64 (0 : Int))), (V.d (D.int IntKind.i64 (0 : Int))), (V.tail (nat_lit 48) [] (nat_lit 0)), (V.tail (nat_lit 3) [] (nat_lit 0)), (V.tail (nat_lit 60) [] (nat_lit 0))]), (rdO w1 false), (Ob.cells [(V.d (D.int IntKind.i64 (0 : Int))), (V.d (D.int IntKind.i64 (0 : Int))), (V.d (D.int IntKind.i64 (0 : Int))), (V.tail (nat_lit 48) [] (nat_lit 0)), (V.tail (nat_lit 3) [] (nat_lit 0)), (V.tail (nat_lit 60) [] (nat_lit 0))])])), (4, .v (V.d (D.bool ([(116 : UInt8), (97 : UInt8), (98 : UInt8)] == [(101 : UInt8), (100 : UInt8), (105 : UInt8), (116 : UInt8)])))), (6, .v (V.d (D.bool ([(116 : UInt8), (97 : UInt8), (98 : UInt8)] == [(102 : UInt8), (111 : UInt8), (108 : UInt8), (100 : UInt8)])))), (8, .v (V.d (D.bool ([(116 : UInt8), (97 : UInt8), (98 : UInt8)] == [(117 : UInt8), (110 : UInt8), (102 : UInt8), (111 : UInt8), (108 : UInt8), (100 : UInt8)])))), (10, .v (V.d (D.bool ([(116 : UInt8), (97 : UInt8), (98 : UInt8)] == [(105 : UInt8), (110 : UInt8), (108 : UInt8), (97 : UInt8), (121 : UInt8)])))), (12, .v (V.d (D.bool ([(116 : UInt8), (97 : UInt8), (98 : UInt8)] == [(119 : UInt8), (105 : UInt8), (100 : UInt8), (116 : UInt8), (104 : UInt8)])))), (14, .v (V.d (D.bool ([(116 : UInt8), (97 : UInt8), (98 : UInt8)] == [(116 : UInt8), (97 : UInt8), (98 : UInt8)])))), (16, .c (V.d (D.int IntKind.i64 n)) ([(Ob.cells [(V.d (D.int IntKind.i64 (0 : Int))), (V.d (D.int IntKind.i64 (0 : Int))), (V.d (D.int IntKind.i64 (0 : Int))), (V.tail (nat_lit 48) [] (nat_lit 0)), (V.tail (nat_lit 3) [] (nat_lit 0)), (V.tail (nat_lit 60) [] (nat_lit 0))]), (rdO w2 b2), (Ob.cells [(V.d (D.int IntKind.i64 (0 : Int))), (V.d (D.int IntKind.i64 (0 : Int))), (V.d (D.int IntKind.i64 (0 : Int))), (V.tail (nat_lit 48) [] (nat_lit 0)), (V.tail (nat_lit 3) [] (nat_lit 0)), (V.tail (nat_lit 60) [] (nat_lit 0))])])), (18, bf), (19, bf), (20, bf), (21, bf), (23, bf), (25, bf), (27, bf), (28, bt)] (cP h2 (cP h1 (cP h1 (cP h1 (cP h1 (cP h1 (cP h1 (cP h1 (cE (@numE (Ob.cells [(V.d (D.int IntKind.i64 (0 : Int))), (V.d (D.int IntKind.i64 (0 : Int))), (V.d (D.int IntKind.i64 (0 : Int))), (V.tail (nat_lit 48) [] (nat_lit 0)), (V.tail (nat_lit 3) [] (nat_lit 0)), (V.tail (nat_lit 60) [] (nat_lit 0))]) (w1) (false) ([(Ob.cells [(V.d (D.int IntKind.i64 (0 : Int))), (V.d (D.int IntKind.i64 (0 : Int))), (V.d (D.int IntKind.i64 (0 : Int))), (V.tail (nat_lit 48) [] (nat_lit 0)), (V.tail (nat_lit 3) [] (nat_lit 0)), (V.tail (nat_lit 60) [] (nat_lit 0))])]) (n) (w2) (b2) s1 g1 g2 g3) (cP (@strEq ([(116 : UInt8), (97 : UInt8), (98 : UInt8)]) ([(116 : UInt8), (97 : UInt8), (98 : UInt8)])) (cP (@strEq ([(116 : UInt8), (97 : UInt8), (98 : UInt8)]) ([(119 : UInt8), (105 : UInt8), (100 : UInt8), (116 : UInt8), (104 : UInt8)])) (cP (@strEq ([(116 : UInt8), (97 : UInt8), (98 : UInt8)]) ([(105 : UInt8), (110 : UInt8), (108 : UInt8), (97 : UInt8), (121 : UInt8)])) (cP (@strEq ([(116 : UInt8), (97 : UInt8), (98 : UInt8)]) ([(117 : UInt8), (110 : UInt8), (102 : UInt8), (111 : UInt8), (108 : UInt8), (100 : UInt8)])) (cP (@strEq ([(116 : UInt8), (97 : UInt8), (98 : UInt8)]) ([(102 : UInt8), (111 : UInt8), (108 : UInt8), (100 : UInt8)])) (cP (@strEq ([(116 : UInt8), (97 : UInt8), (98 : UInt8)]) ([(101 : UInt8), (100 : UInt8), (105 : UInt8), (116 : UInt8)])) (cE (@wordE (Ob.cells [(V.d (D.int IntKind.i64 (0 : Int))), (V.d (D.int IntKind.i64 (0 : Int))), (V.d (D.int IntKind.i64 (0 : Int))), (V.tail (nat_lit 48) [] (nat_lit 0)), (V.tail (nat_lit 3) [] (nat_lit 0)), (V.tail (nat_lit 60) [] (nat_lit 0))]) (pieces (32 : UInt8) line) (false) ([(Ob.cells [(V.d (D.int IntKind.i64 (0 : Int))), (V.d (D.int IntKind.i64 (0 : Int))), (V.d (D.int IntKind.i64 (0 : Int))), (V.tail (nat_lit 48) [] (nat_lit 0)), (V.tail (nat_lit 3) [] (nat_lit 0)), (V.tail (nat_lit 60) [] (nat_lit 0))])]) ([(116 : UInt8), (97 : UInt8), (98 : UInt8)]) (w1) (false) e1 e2 e3) (cC (@splitW (line) hl) (cP h0 (cC (@hasNl (line)) nilE))))))))))))))))))) (by kernel_rfl) rfl rfl
set_option maxHeartbeats 4000000 in
theorem psTab3 : psTab3_T := by
  intro line w1 hl hn e1 e2 e3 w2 b2 n s1 g1 g2 g3 hb hm
  have h0 : (hasC (10 : UInt8) line) = false := by (first | assumption | (((try simp only [SA] at *); (try simp (disch := omega) only [SB, reduceCtorEq] at *)) <;> first | omega | assumption | (refine ⟨?_, ?_⟩ <;> assumption) | (refine ⟨?_, ?_, ?_⟩ <;> assumption) | (intros; assumption) | (right; right; assumption) | (right; left; assumption) | (left; assumption)))
  have h1 : (b2) = false := by (first | assumption | (((try simp only [SA] at *); (try simp (disch := omega) only [SB, reduceCtorEq] at *)) <;> first | omega | assumption | (refine ⟨?_, ?_⟩ <;> assumption) | (refine ⟨?_, ?_, ?_⟩ <;> assumption) | (intros; assumption) | (right; right; assumption) | (right; left; assumption) | (left; assumption)))
  have h2 : (decide ((↑(List.length w2) : Int) > (0 : Int))) = false := by (first | assumption | (((try simp only [SA] at *); (try simp (disch := omega) only [SB, reduceCtorEq] at *)) <;> first | omega | assumption | (refine ⟨?_, ?_⟩ <;> assumption) | (refine ⟨?_, ?_, ?_⟩ <;> assumption) | (intros; assumption) | (right; right; assumption) | (right; left; assumption) | (left; assumption)))
  exact pV 12 [(0, .v (V.d (D.bool (hasC (10 : UInt8) line)))), (1, bf), (2, .v (V.d (strsD (pieces (32 : UInt8) line)))), (3, .c (V.d (D.str [(116 : UInt8), (97 : UInt8), (98 : UInt8)])) ([(Ob.cells [(V.d (D.int IntKind.i64 (0 : Int))), (V.d (D.int IntKind.i64 (0 : Int))), (V.d (D.int IntKind.i64 (0 : Int))), (V.tail (nat_lit 48) [] (nat_lit 0)), (V.tail (nat_lit 3) [] (nat_lit 0)), (V.tail (nat_lit 60) [] (nat_lit 0))]), (rdO w1 false), (Ob.cells [(V.d (D.int IntKind.i64 (0 : Int))), (V.d (D.int IntKind.i64 (0 : Int))), (V.d (D.int IntKind.i64 (0 : Int))), (V.tail (nat_lit 48) [] (nat_lit 0)), (V.tail (nat_lit 3) [] (nat_lit 0)), (V.tail (nat_lit 60) [] (nat_lit 0))])])), (4, .v (V.d (D.bool ([(116 : UInt8), (97 : UInt8), (98 : UInt8)] == [(101 : UInt8), (100 : UInt8), (105 : UInt8), (116 : UInt8)])))), (6, .v (V.d (D.bool ([(116 : UInt8), (97 : UInt8), (98 : UInt8)] == [(102 : UInt8), (111 : UInt8), (108 : UInt8), (100 : UInt8)])))), (8, .v (V.d (D.bool ([(116 : UInt8), (97 : UInt8), (98 : UInt8)] == [(117 : UInt8), (110 : UInt8), (102 : UInt8), (111 : UInt8), (108 : UInt8), (100 : UInt8)])))), (10, .v (V.d (D.bool ([(116 : UInt8), (97 : UInt8), (98 : UInt8)] == [(105 : UInt8), (110 : UInt8), (108 : UInt8), (97 : UInt8), (121 : UInt8)])))), (12, .v (V.d (D.bool ([(116 : UInt8), (97 : UInt8), (98 : UInt8)] == [(119 : UInt8), (105 : UInt8), (100 : UInt8), (116 : UInt8), (104 : UInt8)])))), (14, .v (V.d (D.bool ([(116 : UInt8), (97 : UInt8), (98 : UInt8)] == [(116 : UInt8), (97 : UInt8), (98 : UInt8)])))), (16, .c (V.d (D.int IntKind.i64 n)) ([(Ob.cells [(V.d (D.int IntKind.i64 (0 : Int))), (V.d (D.int IntKind.i64 (0 : Int))), (V.d (D.int IntKind.i64 (0 : Int))), (V.tail (nat_lit 48) [] (nat_lit 0)), (V.tail (nat_lit 3) [] (nat_lit 0)), (V.tail (nat_lit 60) [] (nat_lit 0))]), (rdO w2 b2), (Ob.cells [(V.d (D.int IntKind.i64 (0 : Int))), (V.d (D.int IntKind.i64 (0 : Int))), (V.d (D.int IntKind.i64 (0 : Int))), (V.tail (nat_lit 48) [] (nat_lit 0)), (V.tail (nat_lit 3) [] (nat_lit 0)), (V.tail (nat_lit 60) [] (nat_lit 0))])])), (18, bf), (19, bf), (20, bf), (21, bf), (23, bf), (25, bf), (27, bf), (28, bf)] (cP h2 (cP h1 (cP h1 (cP h1 (cP h1 (cP h1 (cP h1 (cP h1 (cE (@numE (Ob.cells [(V.d (D.int IntKind.i64 (0 : Int))), (V.d (D.int IntKind.i64 (0 : Int))), (V.d (D.int IntKind.i64 (0 : Int))), (V.tail (nat_lit 48) [] (nat_lit 0)), (V.tail (nat_lit 3) [] (nat_lit 0)), (V.tail (nat_lit 60) [] (nat_lit 0))]) (w1) (false) ([(Ob.cells [(V.d (D.int IntKind.i64 (0 : Int))), (V.d (D.int IntKind.i64 (0 : Int))), (V.d (D.int IntKind.i64 (0 : Int))), (V.tail (nat_lit 48) [] (nat_lit 0)), (V.tail (nat_lit 3) [] (nat_lit 0)), (V.tail (nat_lit 60) [] (nat_lit 0))])]) (n) (w2) (b2) s1 g1 g2 g3) (cP (@strEq ([(116 : UInt8), (97 : UInt8), (98 : UInt8)]) ([(116 : UInt8), (97 : UInt8), (98 : UInt8)])) (cP (@strEq ([(116 : UInt8), (97 : UInt8), (98 : UInt8)]) ([(119 : UInt8), (105 : UInt8), (100 : UInt8), (116 : UInt8), (104 : UInt8)])) (cP (@strEq ([(116 : UInt8), (97 : UInt8), (98 : UInt8)]) ([(105 : UInt8), (110 : UInt8), (108 : UInt8), (97 : UInt8), (121 : UInt8)])) (cP (@strEq ([(116 : UInt8), (97 : UInt8), (98 : UInt8)]) ([(117 : UInt8), (110 : UInt8), (102 : UInt8), (111 : UInt8), (108 : UInt8), (100 : UInt8)])) (cP (@strEq ([(116 : UInt8), (97 : UInt8), (98 : UInt8)]) ([(102 : UInt8), (111 : UInt8), (108 : UInt8), (100 : UInt8)])) (cP (@strEq ([(116 : UInt8), (97 : UInt8), (98 : UInt8)]) ([(101 : UInt8), (100 : UInt8), (105 : UInt8), (116 : UInt8)])) (cE (@wordE (Ob.cells [(V.d (D.int IntKind.i64 (0 : Int))), (V.d (D.int IntKind.i64 (0 : Int))), (V.d (D.int IntKind.i64 (0 : Int))), (V.tail (nat_lit 48) [] (nat_lit 0)), (V.tail (nat_lit 3) [] (nat_lit 0)), (V.tail (nat_lit 60) [] (nat_lit 0))]) (pieces (32 : UInt8) line) (false) ([(Ob.cells [(V.d (D.int IntKind.i64 (0 : Int))), (V.d (D.int IntKind.i64 (0 : Int))), (V.d (D.int IntKind.i64 (0 : Int))), (V.tail (nat_lit 48) [] (nat_lit 0)), (V.tail (nat_lit 3) [] (nat_lit 0)), (V.tail (nat_lit 60) [] (nat_lit 0))])]) ([(116 : UInt8), (97 : UInt8), (98 : UInt8)]) (w1) (false) e1 e2 e3) (cC (@splitW (line) hl) (cP h0 (cC (@hasNl (line)) nilE))))))))))))))))))) (by kernel_rfl) rfl rfl
set_option maxHeartbeats 4000000 in
theorem psUndo2 : psUndo2_T := by
  intro line w1 hl hn e1 e2 e3 hm
  have h0 : (hasC (10 : UInt8) line) = false := by (first | assumption | (((try simp only [SA] at *); (try simp (disch := omega) only [SB, reduceCtorEq] at *)) <;> first | omega | assumption | (refine ⟨?_, ?_⟩ <;> assumption) | (refine ⟨?_, ?_, ?_⟩ <;> assumption) | (intros; assumption) | (right; right; assumption) | (right; left; assumption) | (left; assumption)))
  have h1 : (decide ((↑(List.length w1) : Int) > (0 : Int))) = true := by (first | assumption | (((try simp only [SA] at *); (try simp (disch := omega) only [SB, reduceCtorEq] at *)) <;> first | omega | assumption | (refine ⟨?_, ?_⟩ <;> assumption) | (refine ⟨?_, ?_, ?_⟩ <;> assumption) | (intros; assumption) | (right; right; assumption) | (right; left; assumption) | (left; assumption)))
  exact pV 12 [(0, .v (V.d (D.bool (hasC (10 : UInt8) line)))), (1, bf), (2, .v (V.d (strsD (pieces (32 : UInt8) line)))), (3, .c (V.d (D.str [(117 : UInt8), (110 : UInt8), (100 : UInt8), (111 : UInt8)])) ([(Ob.cells [(V.d (D.int IntKind.i64 (0 : Int))), (V.d (D.int IntKind.i64 (0 : Int))), (V.d (D.int IntKind.i64 (0 : Int))), (V.tail (nat_lit 48) [] (nat_lit 0)), (V.tail (nat_lit 3) [] (nat_lit 0)), (V.tail (nat_lit 60) [] (nat_lit 0))]), (rdO w1 false), (Ob.cells [(V.d (D.int IntKind.i64 (0 : Int))), (V.d (D.int IntKind.i64 (0 : Int))), (V.d (D.int IntKind.i64 (0 : Int))), (V.tail (nat_lit 48) [] (nat_lit 0)), (V.tail (nat_lit 3) [] (nat_lit 0)), (V.tail (nat_lit 60) [] (nat_lit 0))])])), (4, .v (V.d (D.bool ([(117 : UInt8), (110 : UInt8), (100 : UInt8), (111 : UInt8)] == [(101 : UInt8), (100 : UInt8), (105 : UInt8), (116 : UInt8)])))), (6, .v (V.d (D.bool ([(117 : UInt8), (110 : UInt8), (100 : UInt8), (111 : UInt8)] == [(102 : UInt8), (111 : UInt8), (108 : UInt8), (100 : UInt8)])))), (8, .v (V.d (D.bool ([(117 : UInt8), (110 : UInt8), (100 : UInt8), (111 : UInt8)] == [(117 : UInt8), (110 : UInt8), (102 : UInt8), (111 : UInt8), (108 : UInt8), (100 : UInt8)])))), (10, .v (V.d (D.bool ([(117 : UInt8), (110 : UInt8), (100 : UInt8), (111 : UInt8)] == [(105 : UInt8), (110 : UInt8), (108 : UInt8), (97 : UInt8), (121 : UInt8)])))), (12, .v (V.d (D.bool ([(117 : UInt8), (110 : UInt8), (100 : UInt8), (111 : UInt8)] == [(119 : UInt8), (105 : UInt8), (100 : UInt8), (116 : UInt8), (104 : UInt8)])))), (14, .v (V.d (D.bool ([(117 : UInt8), (110 : UInt8), (100 : UInt8), (111 : UInt8)] == [(116 : UInt8), (97 : UInt8), (98 : UInt8)])))), (16, .v (V.d (D.bool ([(117 : UInt8), (110 : UInt8), (100 : UInt8), (111 : UInt8)] == [(117 : UInt8), (110 : UInt8), (100 : UInt8), (111 : UInt8)])))), (29, bt)] (cP h1 (cP (@strEq ([(117 : UInt8), (110 : UInt8), (100 : UInt8), (111 : UInt8)]) ([(117 : UInt8), (110 : UInt8), (100 : UInt8), (111 : UInt8)])) (cP (@strEq ([(117 : UInt8), (110 : UInt8), (100 : UInt8), (111 : UInt8)]) ([(116 : UInt8), (97 : UInt8), (98 : UInt8)])) (cP (@strEq ([(117 : UInt8), (110 : UInt8), (100 : UInt8), (111 : UInt8)]) ([(119 : UInt8), (105 : UInt8), (100 : UInt8), (116 : UInt8), (104 : UInt8)])) (cP (@strEq ([(117 : UInt8), (110 : UInt8), (100 : UInt8), (111 : UInt8)]) ([(105 : UInt8), (110 : UInt8), (108 : UInt8), (97 : UInt8), (121 : UInt8)])) (cP (@strEq ([(117 : UInt8), (110 : UInt8), (100 : UInt8), (111 : UInt8)]) ([(117 : UInt8), (110 : UInt8), (102 : UInt8), (111 : UInt8), (108 : UInt8), (100 : UInt8)])) (cP (@strEq ([(117 : UInt8), (110 : UInt8), (100 : UInt8), (111 : UInt8)]) ([(102 : UInt8), (111 : UInt8), (108 : UInt8), (100 : UInt8)])) (cP (@strEq ([(117 : UInt8), (110 : UInt8), (100 : UInt8), (111 : UInt8)]) ([(101 : UInt8), (100 : UInt8), (105 : UInt8), (116 : UInt8)])) (cE (@wordE (Ob.cells [(V.d (D.int IntKind.i64 (0 : Int))), (V.d (D.int IntKind.i64 (0 : Int))), (V.d (D.int IntKind.i64 (0 : Int))), (V.tail (nat_lit 48) [] (nat_lit 0)), (V.tail (nat_lit 3) [] (nat_lit 0)), (V.tail (nat_lit 60) [] (nat_lit 0))]) (pieces (32 : UInt8) line) (false) ([(Ob.cells [(V.d (D.int IntKind.i64 (0 : Int))), (V.d (D.int IntKind.i64 (0 : Int))), (V.d (D.int IntKind.i64 (0 : Int))), (V.tail (nat_lit 48) [] (nat_lit 0)), (V.tail (nat_lit 3) [] (nat_lit 0)), (V.tail (nat_lit 60) [] (nat_lit 0))])]) ([(117 : UInt8), (110 : UInt8), (100 : UInt8), (111 : UInt8)]) (w1) (false) e1 e2 e3) (cC (@splitW (line) hl) (cP h0 (cC (@hasNl (line)) nilE)))))))))))) (by kernel_rfl) rfl rfl
set_option maxHeartbeats 4000000 in
theorem psUndo3 : psUndo3_T := by
  intro line w1 hl hn e1 e2 e3 hm
  have h0 : (hasC (10 : UInt8) line) = false := by (first | assumption | (((try simp only [SA] at *); (try simp (disch := omega) only [SB, reduceCtorEq] at *)) <;> first | omega | assumption | (refine ⟨?_, ?_⟩ <;> assumption) | (refine ⟨?_, ?_, ?_⟩ <;> assumption) | (intros; assumption) | (right; right; assumption) | (right; left; assumption) | (left; assumption)))
  have h1 : (decide ((↑(List.length w1) : Int) > (0 : Int))) = false := by (first | assumption | (((try simp only [SA] at *); (try simp (disch := omega) only [SB, reduceCtorEq] at *)) <;> first | omega | assumption | (refine ⟨?_, ?_⟩ <;> assumption) | (refine ⟨?_, ?_, ?_⟩ <;> assumption) | (intros; assumption) | (right; right; assumption) | (right; left; assumption) | (left; assumption)))
  exact pV 12 [(0, .v (V.d (D.bool (hasC (10 : UInt8) line)))), (1, bf), (2, .v (V.d (strsD (pieces (32 : UInt8) line)))), (3, .c (V.d (D.str [(117 : UInt8), (110 : UInt8), (100 : UInt8), (111 : UInt8)])) ([(Ob.cells [(V.d (D.int IntKind.i64 (0 : Int))), (V.d (D.int IntKind.i64 (0 : Int))), (V.d (D.int IntKind.i64 (0 : Int))), (V.tail (nat_lit 48) [] (nat_lit 0)), (V.tail (nat_lit 3) [] (nat_lit 0)), (V.tail (nat_lit 60) [] (nat_lit 0))]), (rdO w1 false), (Ob.cells [(V.d (D.int IntKind.i64 (0 : Int))), (V.d (D.int IntKind.i64 (0 : Int))), (V.d (D.int IntKind.i64 (0 : Int))), (V.tail (nat_lit 48) [] (nat_lit 0)), (V.tail (nat_lit 3) [] (nat_lit 0)), (V.tail (nat_lit 60) [] (nat_lit 0))])])), (4, .v (V.d (D.bool ([(117 : UInt8), (110 : UInt8), (100 : UInt8), (111 : UInt8)] == [(101 : UInt8), (100 : UInt8), (105 : UInt8), (116 : UInt8)])))), (6, .v (V.d (D.bool ([(117 : UInt8), (110 : UInt8), (100 : UInt8), (111 : UInt8)] == [(102 : UInt8), (111 : UInt8), (108 : UInt8), (100 : UInt8)])))), (8, .v (V.d (D.bool ([(117 : UInt8), (110 : UInt8), (100 : UInt8), (111 : UInt8)] == [(117 : UInt8), (110 : UInt8), (102 : UInt8), (111 : UInt8), (108 : UInt8), (100 : UInt8)])))), (10, .v (V.d (D.bool ([(117 : UInt8), (110 : UInt8), (100 : UInt8), (111 : UInt8)] == [(105 : UInt8), (110 : UInt8), (108 : UInt8), (97 : UInt8), (121 : UInt8)])))), (12, .v (V.d (D.bool ([(117 : UInt8), (110 : UInt8), (100 : UInt8), (111 : UInt8)] == [(119 : UInt8), (105 : UInt8), (100 : UInt8), (116 : UInt8), (104 : UInt8)])))), (14, .v (V.d (D.bool ([(117 : UInt8), (110 : UInt8), (100 : UInt8), (111 : UInt8)] == [(116 : UInt8), (97 : UInt8), (98 : UInt8)])))), (16, .v (V.d (D.bool ([(117 : UInt8), (110 : UInt8), (100 : UInt8), (111 : UInt8)] == [(117 : UInt8), (110 : UInt8), (100 : UInt8), (111 : UInt8)])))), (29, bf)] (cP h1 (cP (@strEq ([(117 : UInt8), (110 : UInt8), (100 : UInt8), (111 : UInt8)]) ([(117 : UInt8), (110 : UInt8), (100 : UInt8), (111 : UInt8)])) (cP (@strEq ([(117 : UInt8), (110 : UInt8), (100 : UInt8), (111 : UInt8)]) ([(116 : UInt8), (97 : UInt8), (98 : UInt8)])) (cP (@strEq ([(117 : UInt8), (110 : UInt8), (100 : UInt8), (111 : UInt8)]) ([(119 : UInt8), (105 : UInt8), (100 : UInt8), (116 : UInt8), (104 : UInt8)])) (cP (@strEq ([(117 : UInt8), (110 : UInt8), (100 : UInt8), (111 : UInt8)]) ([(105 : UInt8), (110 : UInt8), (108 : UInt8), (97 : UInt8), (121 : UInt8)])) (cP (@strEq ([(117 : UInt8), (110 : UInt8), (100 : UInt8), (111 : UInt8)]) ([(117 : UInt8), (110 : UInt8), (102 : UInt8), (111 : UInt8), (108 : UInt8), (100 : UInt8)])) (cP (@strEq ([(117 : UInt8), (110 : UInt8), (100 : UInt8), (111 : UInt8)]) ([(102 : UInt8), (111 : UInt8), (108 : UInt8), (100 : UInt8)])) (cP (@strEq ([(117 : UInt8), (110 : UInt8), (100 : UInt8), (111 : UInt8)]) ([(101 : UInt8), (100 : UInt8), (105 : UInt8), (116 : UInt8)])) (cE (@wordE (Ob.cells [(V.d (D.int IntKind.i64 (0 : Int))), (V.d (D.int IntKind.i64 (0 : Int))), (V.d (D.int IntKind.i64 (0 : Int))), (V.tail (nat_lit 48) [] (nat_lit 0)), (V.tail (nat_lit 3) [] (nat_lit 0)), (V.tail (nat_lit 60) [] (nat_lit 0))]) (pieces (32 : UInt8) line) (false) ([(Ob.cells [(V.d (D.int IntKind.i64 (0 : Int))), (V.d (D.int IntKind.i64 (0 : Int))), (V.d (D.int IntKind.i64 (0 : Int))), (V.tail (nat_lit 48) [] (nat_lit 0)), (V.tail (nat_lit 3) [] (nat_lit 0)), (V.tail (nat_lit 60) [] (nat_lit 0))])]) ([(117 : UInt8), (110 : UInt8), (100 : UInt8), (111 : UInt8)]) (w1) (false) e1 e2 e3) (cC (@splitW (line) hl) (cP h0 (cC (@hasNl (line)) nilE)))))))))))) (by kernel_rfl) rfl rfl
set_option maxHeartbeats 4000000 in
theorem psRedo2 : psRedo2_T := by
  intro line w1 hl hn e1 e2 e3 hm
  have h0 : (hasC (10 : UInt8) line) = false := by (first | assumption | (((try simp only [SA] at *); (try simp (disch := omega) only [SB, reduceCtorEq] at *)) <;> first | omega | assumption | (refine ⟨?_, ?_⟩ <;> assumption) | (refine ⟨?_, ?_, ?_⟩ <;> assumption) | (intros; assumption) | (right; right; assumption) | (right; left; assumption) | (left; assumption)))
  have h1 : (decide ((↑(List.length w1) : Int) > (0 : Int))) = true := by (first | assumption | (((try simp only [SA] at *); (try simp (disch := omega) only [SB, reduceCtorEq] at *)) <;> first | omega | assumption | (refine ⟨?_, ?_⟩ <;> assumption) | (refine ⟨?_, ?_, ?_⟩ <;> assumption) | (intros; assumption) | (right; right; assumption) | (right; left; assumption) | (left; assumption)))
  exact pV 12 [(0, .v (V.d (D.bool (hasC (10 : UInt8) line)))), (1, bf), (2, .v (V.d (strsD (pieces (32 : UInt8) line)))), (3, .c (V.d (D.str [(114 : UInt8), (101 : UInt8), (100 : UInt8), (111 : UInt8)])) ([(Ob.cells [(V.d (D.int IntKind.i64 (0 : Int))), (V.d (D.int IntKind.i64 (0 : Int))), (V.d (D.int IntKind.i64 (0 : Int))), (V.tail (nat_lit 48) [] (nat_lit 0)), (V.tail (nat_lit 3) [] (nat_lit 0)), (V.tail (nat_lit 60) [] (nat_lit 0))]), (rdO w1 false), (Ob.cells [(V.d (D.int IntKind.i64 (0 : Int))), (V.d (D.int IntKind.i64 (0 : Int))), (V.d (D.int IntKind.i64 (0 : Int))), (V.tail (nat_lit 48) [] (nat_lit 0)), (V.tail (nat_lit 3) [] (nat_lit 0)), (V.tail (nat_lit 60) [] (nat_lit 0))])])), (4, .v (V.d (D.bool ([(114 : UInt8), (101 : UInt8), (100 : UInt8), (111 : UInt8)] == [(101 : UInt8), (100 : UInt8), (105 : UInt8), (116 : UInt8)])))), (6, .v (V.d (D.bool ([(114 : UInt8), (101 : UInt8), (100 : UInt8), (111 : UInt8)] == [(102 : UInt8), (111 : UInt8), (108 : UInt8), (100 : UInt8)])))), (8, .v (V.d (D.bool ([(114 : UInt8), (101 : UInt8), (100 : UInt8), (111 : UInt8)] == [(117 : UInt8), (110 : UInt8), (102 : UInt8), (111 : UInt8), (108 : UInt8), (100 : UInt8)])))), (10, .v (V.d (D.bool ([(114 : UInt8), (101 : UInt8), (100 : UInt8), (111 : UInt8)] == [(105 : UInt8), (110 : UInt8), (108 : UInt8), (97 : UInt8), (121 : UInt8)])))), (12, .v (V.d (D.bool ([(114 : UInt8), (101 : UInt8), (100 : UInt8), (111 : UInt8)] == [(119 : UInt8), (105 : UInt8), (100 : UInt8), (116 : UInt8), (104 : UInt8)])))), (14, .v (V.d (D.bool ([(114 : UInt8), (101 : UInt8), (100 : UInt8), (111 : UInt8)] == [(116 : UInt8), (97 : UInt8), (98 : UInt8)])))), (16, .v (V.d (D.bool ([(114 : UInt8), (101 : UInt8), (100 : UInt8), (111 : UInt8)] == [(117 : UInt8), (110 : UInt8), (100 : UInt8), (111 : UInt8)])))), (18, .v (V.d (D.bool ([(114 : UInt8), (101 : UInt8), (100 : UInt8), (111 : UInt8)] == [(114 : UInt8), (101 : UInt8), (100 : UInt8), (111 : UInt8)])))), (31, bt)] (cP h1 (cP (@strEq ([(114 : UInt8), (101 : UInt8), (100 : UInt8), (111 : UInt8)]) ([(114 : UInt8), (101 : UInt8), (100 : UInt8), (111 : UInt8)])) (cP (@strEq ([(114 : UInt8), (101 : UInt8), (100 : UInt8), (111 : UInt8)]) ([(117 : UInt8), (110 : UInt8), (100 : UInt8), (111 : UInt8)])) (cP (@strEq ([(114 : UInt8), (101 : UInt8), (100 : UInt8), (111 : UInt8)]) ([(116 : UInt8), (97 : UInt8), (98 : UInt8)])) (cP (@strEq ([(114 : UInt8), (101 : UInt8), (100 : UInt8), (111 : UInt8)]) ([(119 : UInt8), (105 : UInt8), (100 : UInt8), (116 : UInt8), (104 : UInt8)])) (cP (@strEq ([(114 : UInt8), (101 : UInt8), (100 : UInt8), (111 : UInt8)]) ([(105 : UInt8), (110 : UInt8), (108 : UInt8), (97 : UInt8), (121 : UInt8)])) (cP (@strEq ([(114 : UInt8), (101 : UInt8), (100 : UInt8), (111 : UInt8)]) ([(117 : UInt8), (110 : UInt8), (102 : UInt8), (111 : UInt8), (108 : UInt8), (100 : UInt8)])) (cP (@strEq ([(114 : UInt8), (101 : UInt8), (100 : UInt8), (111 : UInt8)]) ([(102 : UInt8), (111 : UInt8), (108 : UInt8), (100 : UInt8)])) (cP (@strEq ([(114 : UInt8), (101 : UInt8), (100 : UInt8), (111 : UInt8)]) ([(101 : UInt8), (100 : UInt8), (105 : UInt8), (116 : UInt8)])) (cE (@wordE (Ob.cells [(V.d (D.int IntKind.i64 (0 : Int))), (V.d (D.int IntKind.i64 (0 : Int))), (V.d (D.int IntKind.i64 (0 : Int))), (V.tail (nat_lit 48) [] (nat_lit 0)), (V.tail (nat_lit 3) [] (nat_lit 0)), (V.tail (nat_lit 60) [] (nat_lit 0))]) (pieces (32 : UInt8) line) (false) ([(Ob.cells [(V.d (D.int IntKind.i64 (0 : Int))), (V.d (D.int IntKind.i64 (0 : Int))), (V.d (D.int IntKind.i64 (0 : Int))), (V.tail (nat_lit 48) [] (nat_lit 0)), (V.tail (nat_lit 3) [] (nat_lit 0)), (V.tail (nat_lit 60) [] (nat_lit 0))])]) ([(114 : UInt8), (101 : UInt8), (100 : UInt8), (111 : UInt8)]) (w1) (false) e1 e2 e3) (cC (@splitW (line) hl) (cP h0 (cC (@hasNl (line)) nilE))))))))))))) (by kernel_rfl) rfl rfl
set_option maxHeartbeats 4000000 in
theorem psRedo3 : psRedo3_T := by
  intro line w1 hl hn e1 e2 e3 hm
  have h0 : (hasC (10 : UInt8) line) = false := by (first | assumption | (((try simp only [SA] at *); (try simp (disch := omega) only [SB, reduceCtorEq] at *)) <;> first | omega | assumption | (refine ⟨?_, ?_⟩ <;> assumption) | (refine ⟨?_, ?_, ?_⟩ <;> assumption) | (intros; assumption) | (right; right; assumption) | (right; left; assumption) | (left; assumption)))
  have h1 : (decide ((↑(List.length w1) : Int) > (0 : Int))) = false := by (first | assumption | (((try simp only [SA] at *); (try simp (disch := omega) only [SB, reduceCtorEq] at *)) <;> first | omega | assumption | (refine ⟨?_, ?_⟩ <;> assumption) | (refine ⟨?_, ?_, ?_⟩ <;> assumption) | (intros; assumption) | (right; right; assumption) | (right; left; assumption) | (left; assumption)))
  exact pV 12 [(0, .v (V.d (D.bool (hasC (10 : UInt8) line)))), (1, bf), (2, .v (V.d (strsD (pieces (32 : UInt8) line)))), (3, .c (V.d (D.str [(114 : UInt8), (101 : UInt8), (100 : UInt8), (111 : UInt8)])) ([(Ob.cells [(V.d (D.int IntKind.i64 (0 : Int))), (V.d (D.int IntKind.i64 (0 : Int))), (V.d (D.int IntKind.i64 (0 : Int))), (V.tail (nat_lit 48) [] (nat_lit 0)), (V.tail (nat_lit 3) [] (nat_lit 0)), (V.tail (nat_lit 60) [] (nat_lit 0))]), (rdO w1 false), (Ob.cells [(V.d (D.int IntKind.i64 (0 : Int))), (V.d (D.int IntKind.i64 (0 : Int))), (V.d (D.int IntKind.i64 (0 : Int))), (V.tail (nat_lit 48) [] (nat_lit 0)), (V.tail (nat_lit 3) [] (nat_lit 0)), (V.tail (nat_lit 60) [] (nat_lit 0))])])), (4, .v (V.d (D.bool ([(114 : UInt8), (101 : UInt8), (100 : UInt8), (111 : UInt8)] == [(101 : UInt8), (100 : UInt8), (105 : UInt8), (116 : UInt8)])))), (6, .v (V.d (D.bool ([(114 : UInt8), (101 : UInt8), (100 : UInt8), (111 : UInt8)] == [(102 : UInt8), (111 : UInt8), (108 : UInt8), (100 : UInt8)])))), (8, .v (V.d (D.bool ([(114 : UInt8), (101 : UInt8), (100 : UInt8), (111 : UInt8)] == [(117 : UInt8), (110 : UInt8), (102 : UInt8), (111 : UInt8), (108 : UInt8), (100 : UInt8)])))), (10, .v (V.d (D.bool ([(114 : UInt8), (101 : UInt8), (100 : UInt8), (111 : UInt8)] == [(105 : UInt8), (110 : UInt8), (108 : UInt8), (97 : UInt8), (121 : UInt8)])))), (12, .v (V.d (D.bool ([(114 : UInt8), (101 : UInt8), (100 : UInt8), (111 : UInt8)] == [(119 : UInt8), (105 : UInt8), (100 : UInt8), (116 : UInt8), (104 : UInt8)])))), (14, .v (V.d (D.bool ([(114 : UInt8), (101 : UInt8), (100 : UInt8), (111 : UInt8)] == [(116 : UInt8), (97 : UInt8), (98 : UInt8)])))), (16, .v (V.d (D.bool ([(114 : UInt8), (101 : UInt8), (100 : UInt8), (111 : UInt8)] == [(117 : UInt8), (110 : UInt8), (100 : UInt8), (111 : UInt8)])))), (18, .v (V.d (D.bool ([(114 : UInt8), (101 : UInt8), (100 : UInt8), (111 : UInt8)] == [(114 : UInt8), (101 : UInt8), (100 : UInt8), (111 : UInt8)])))), (31, bf)] (cP h1 (cP (@strEq ([(114 : UInt8), (101 : UInt8), (100 : UInt8), (111 : UInt8)]) ([(114 : UInt8), (101 : UInt8), (100 : UInt8), (111 : UInt8)])) (cP (@strEq ([(114 : UInt8), (101 : UInt8), (100 : UInt8), (111 : UInt8)]) ([(117 : UInt8), (110 : UInt8), (100 : UInt8), (111 : UInt8)])) (cP (@strEq ([(114 : UInt8), (101 : UInt8), (100 : UInt8), (111 : UInt8)]) ([(116 : UInt8), (97 : UInt8), (98 : UInt8)])) (cP (@strEq ([(114 : UInt8), (101 : UInt8), (100 : UInt8), (111 : UInt8)]) ([(119 : UInt8), (105 : UInt8), (100 : UInt8), (116 : UInt8), (104 : UInt8)])) (cP (@strEq ([(114 : UInt8), (101 : UInt8), (100 : UInt8), (111 : UInt8)]) ([(105 : UInt8), (110 : UInt8), (108 : UInt8), (97 : UInt8), (121 : UInt8)])) (cP (@strEq ([(114 : UInt8), (101 : UInt8), (100 : UInt8), (111 : UInt8)]) ([(117 : UInt8), (110 : UInt8), (102 : UInt8), (111 : UInt8), (108 : UInt8), (100 : UInt8)])) (cP (@strEq ([(114 : UInt8), (101 : UInt8), (100 : UInt8), (111 : UInt8)]) ([(102 : UInt8), (111 : UInt8), (108 : UInt8), (100 : UInt8)])) (cP (@strEq ([(114 : UInt8), (101 : UInt8), (100 : UInt8), (111 : UInt8)]) ([(101 : UInt8), (100 : UInt8), (105 : UInt8), (116 : UInt8)])) (cE (@wordE (Ob.cells [(V.d (D.int IntKind.i64 (0 : Int))), (V.d (D.int IntKind.i64 (0 : Int))), (V.d (D.int IntKind.i64 (0 : Int))), (V.tail (nat_lit 48) [] (nat_lit 0)), (V.tail (nat_lit 3) [] (nat_lit 0)), (V.tail (nat_lit 60) [] (nat_lit 0))]) (pieces (32 : UInt8) line) (false) ([(Ob.cells [(V.d (D.int IntKind.i64 (0 : Int))), (V.d (D.int IntKind.i64 (0 : Int))), (V.d (D.int IntKind.i64 (0 : Int))), (V.tail (nat_lit 48) [] (nat_lit 0)), (V.tail (nat_lit 3) [] (nat_lit 0)), (V.tail (nat_lit 60) [] (nat_lit 0))])]) ([(114 : UInt8), (101 : UInt8), (100 : UInt8), (111 : UInt8)]) (w1) (false) e1 e2 e3) (cC (@splitW (line) hl) (cP h0 (cC (@hasNl (line)) nilE))))))))))))) (by kernel_rfl) rfl rfl
set_option maxHeartbeats 4000000 in
theorem psNo : psNo_T := by
  intro line w1 v hl hn e1 e2 e3 q0 q1 q2 q3 q4 q5 q6 q7
  have h0 : (hasC (10 : UInt8) line) = false := by (first | assumption | (((try simp only [SA] at *); (try simp (disch := omega) only [SB, reduceCtorEq] at *)) <;> first | omega | assumption | (refine ⟨?_, ?_⟩ <;> assumption) | (refine ⟨?_, ?_, ?_⟩ <;> assumption) | (intros; assumption) | (right; right; assumption) | (right; left; assumption) | (left; assumption)))
  have h1 : (v == [(101 : UInt8), (100 : UInt8), (105 : UInt8), (116 : UInt8)]) = false := by (first | assumption | (((try simp only [SA] at *); (try simp (disch := omega) only [SB, reduceCtorEq] at *)) <;> first | omega | assumption | (refine ⟨?_, ?_⟩ <;> assumption) | (refine ⟨?_, ?_, ?_⟩ <;> assumption) | (intros; assumption) | (right; right; assumption) | (right; left; assumption) | (left; assumption)))
  have h2 : (v == [(102 : UInt8), (111 : UInt8), (108 : UInt8), (100 : UInt8)]) = false := by (first | assumption | (((try simp only [SA] at *); (try simp (disch := omega) only [SB, reduceCtorEq] at *)) <;> first | omega | assumption | (refine ⟨?_, ?_⟩ <;> assumption) | (refine ⟨?_, ?_, ?_⟩ <;> assumption) | (intros; assumption) | (right; right; assumption) | (right; left; assumption) | (left; assumption)))
  have h3 : (v == [(117 : UInt8), (110 : UInt8), (102 : UInt8), (111 : UInt8), (108 : UInt8), (100 : UInt8)]) = false := by (first | assumption | (((try simp only [SA] at *); (try simp (disch := omega) only [SB, reduceCtorEq] at *)) <;> first | omega | assumption | (refine ⟨?_, ?_⟩ <;> assumption) | (refine ⟨?_, ?_, ?_⟩ <;> assumption) | (intros; assumption) | (right; right; assumption) | (right; left; assumption) | (left; assumption)))
  have h4 : (v == [(105 : UInt8), (110 : UInt8), (108 : UInt8), (97 : UInt8), (121 : UInt8)]) = false := by (first | assumption | (((try simp only [SA] at *); (try simp (disch := omega) only [SB, reduceCtorEq] at *)) <;> first | omega | assumption | (refine ⟨?_, ?_⟩ <;> assumption) | (refine ⟨?_, ?_, ?_⟩ <;> assumption) | (intros; assumption) | (right; right; assumption) | (right; left; assumption) | (left; assumption)))
  have h5 : (v == [(119 : UInt8), (105 : UInt8), (100 : UInt8), (116 : UInt8), (104 : UInt8)]) = false := by (first | assumption | (((try simp only [SA] at *); (try simp (disch := omega) only [SB, reduceCtorEq] at *)) <;> first | omega | assumption | (refine ⟨?_, ?_⟩ <;> assumption) | (refine ⟨?_, ?_, ?_⟩ <;> assumption) | (intros; assumption) | (right; right; assumption) | (right; left; assumption) | (left; assumption)))
  have h6 : (v == [(116 : UInt8), (97 : UInt8), (98 : UInt8)]) = false := by (first | assumption | (((try simp only [SA] at *); (try simp (disch := omega) only [SB, reduceCtorEq] at *)) <;> first | omega | assumption | (refine ⟨?_, ?_⟩ <;> assumption) | (refine ⟨?_, ?_, ?_⟩ <;> assumption) | (intros; assumption) | (right; right; assumption) | (right; left; assumption) | (left; assumption)))
  have h7 : (v == [(117 : UInt8), (110 : UInt8), (100 : UInt8), (111 : UInt8)]) = false := by (first | assumption | (((try simp only [SA] at *); (try simp (disch := omega) only [SB, reduceCtorEq] at *)) <;> first | omega | assumption | (refine ⟨?_, ?_⟩ <;> assumption) | (refine ⟨?_, ?_, ?_⟩ <;> assumption) | (intros; assumption) | (right; right; assumption) | (right; left; assumption) | (left; assumption)))
  have h8 : (v == [(114 : UInt8), (101 : UInt8), (100 : UInt8), (111 : UInt8)]) = false := by (first | assumption | (((try simp only [SA] at *); (try simp (disch := omega) only [SB, reduceCtorEq] at *)) <;> first | omega | assumption | (refine ⟨?_, ?_⟩ <;> assumption) | (refine ⟨?_, ?_, ?_⟩ <;> assumption) | (intros; assumption) | (right; right; assumption) | (right; left; assumption) | (left; assumption)))
  exact pV 12 [(0, .v (V.d (D.bool (hasC (10 : UInt8) line)))), (1, bf), (2, .v (V.d (strsD (pieces (32 : UInt8) line)))), (3, .c (V.d (D.str v)) ([(Ob.cells [(V.d (D.int IntKind.i64 (0 : Int))), (V.d (D.int IntKind.i64 (0 : Int))), (V.d (D.int IntKind.i64 (0 : Int))), (V.tail (nat_lit 48) [] (nat_lit 0)), (V.tail (nat_lit 3) [] (nat_lit 0)), (V.tail (nat_lit 60) [] (nat_lit 0))]), (rdO w1 false), (Ob.cells [(V.d (D.int IntKind.i64 (0 : Int))), (V.d (D.int IntKind.i64 (0 : Int))), (V.d (D.int IntKind.i64 (0 : Int))), (V.tail (nat_lit 48) [] (nat_lit 0)), (V.tail (nat_lit 3) [] (nat_lit 0)), (V.tail (nat_lit 60) [] (nat_lit 0))])])), (4, .v (V.d (D.bool (v == [(101 : UInt8), (100 : UInt8), (105 : UInt8), (116 : UInt8)])))), (5, bf), (6, .v (V.d (D.bool (v == [(102 : UInt8), (111 : UInt8), (108 : UInt8), (100 : UInt8)])))), (7, bf), (8, .v (V.d (D.bool (v == [(117 : UInt8), (110 : UInt8), (102 : UInt8), (111 : UInt8), (108 : UInt8), (100 : UInt8)])))), (9, bf), (10, .v (V.d (D.bool (v == [(105 : UInt8), (110 : UInt8), (108 : UInt8), (97 : UInt8), (121 : UInt8)])))), (11, bf), (12, .v (V.d (D.bool (v == [(119 : UInt8), (105 : UInt8), (100 : UInt8), (116 : UInt8), (104 : UInt8)])))), (13, bf), (14, .v (V.d (D.bool (v == [(116 : UInt8), (97 : UInt8), (98 : UInt8)])))), (15, bf), (16, .v (V.d (D.bool (v == [(117 : UInt8), (110 : UInt8), (100 : UInt8), (111 : UInt8)])))), (17, bf), (18, .v (V.d (D.bool (v == [(114 : UInt8), (101 : UInt8), (100 : UInt8), (111 : UInt8)])))), (19, bf)] (cP h8 (cP (@strEq (v) ([(114 : UInt8), (101 : UInt8), (100 : UInt8), (111 : UInt8)])) (cP h7 (cP (@strEq (v) ([(117 : UInt8), (110 : UInt8), (100 : UInt8), (111 : UInt8)])) (cP h6 (cP (@strEq (v) ([(116 : UInt8), (97 : UInt8), (98 : UInt8)])) (cP h5 (cP (@strEq (v) ([(119 : UInt8), (105 : UInt8), (100 : UInt8), (116 : UInt8), (104 : UInt8)])) (cP h4 (cP (@strEq (v) ([(105 : UInt8), (110 : UInt8), (108 : UInt8), (97 : UInt8), (121 : UInt8)])) (cP h3 (cP (@strEq (v) ([(117 : UInt8), (110 : UInt8), (102 : UInt8), (111 : UInt8), (108 : UInt8), (100 : UInt8)])) (cP h2 (cP (@strEq (v) ([(102 : UInt8), (111 : UInt8), (108 : UInt8), (100 : UInt8)])) (cP h1 (cP (@strEq (v) ([(101 : UInt8), (100 : UInt8), (105 : UInt8), (116 : UInt8)])) (cE (@wordE (Ob.cells [(V.d (D.int IntKind.i64 (0 : Int))), (V.d (D.int IntKind.i64 (0 : Int))), (V.d (D.int IntKind.i64 (0 : Int))), (V.tail (nat_lit 48) [] (nat_lit 0)), (V.tail (nat_lit 3) [] (nat_lit 0)), (V.tail (nat_lit 60) [] (nat_lit 0))]) (pieces (32 : UInt8) line) (false) ([(Ob.cells [(V.d (D.int IntKind.i64 (0 : Int))), (V.d (D.int IntKind.i64 (0 : Int))), (V.d (D.int IntKind.i64 (0 : Int))), (V.tail (nat_lit 48) [] (nat_lit 0)), (V.tail (nat_lit 3) [] (nat_lit 0)), (V.tail (nat_lit 60) [] (nat_lit 0))])]) (v) (w1) (false) e1 e2 e3) (cC (@splitW (line) hl) (cP h0 (cC (@hasNl (line)) nilE)))))))))))))))))))) (by kernel_rfl) rfl rfl
end Go.Proofs.YtgiahagbmgnmkaaDoor.Script
/- Script: inlays, answered as one; what Parse answers of it: statements. -/
set_option linter.unusedVariables false
set_option linter.unusedSimpArgs false
namespace Go.Proofs.YtgiahagbmgnmkaaDoor.Script
open Go Pv G
def inW (ws : List Str) : List Str := adW (rmW ws false) (rmB ws false)
def inB (ws : List Str) : Bool := adB (rmW ws false) (rmB ws false)
def inR (ws : List Str) : List Int := rmR ws false
def inN (ws : List Str) : List Inl := adN (rmW ws false) (rmB ws false)
def inE_T : Prop := ∀ (ws w4 : List Str) (b4 : Bool) (rs : List Int) (ns : List Inl) (k a b : Int) (es : List Edit) (hl : ws.length ≤ 1000000) (hs : Sm ws) (q1 : inW ws = w4) (q2 : inB ws = b4) (q3 : inR ws = rs) (q4 : inN ws = ns), AnsI X0 FInl [.obj 1 0, .obj 2 0] [zO, rdO ws false, opO k a b es [] []] (.d (.tup [])) [zO, rdO w4 b4, opO k a b es rs ns]
theorem inE : inE_T := fun ws w4 b4 rs ns k a b es hl hs q1 q2 q3 q4 => by
  subst q1; subst q2; subst q3; subst q4
  have := rmF_sm (ws.length + 1) ws false [] hs
  exact (in0 ws false k a b es hl hs (by unfold rmW; omega) this.1).toI rfl rfl
def inE0_T : Prop := ∀ (ws w4 : List Str) (b4 : Bool) (rs : List Int) (ns : List Inl) (k a b : Int) (hl : ws.length ≤ 1000000) (hs : Sm ws) (q1 : inW ws = w4) (q2 : inB ws = b4) (q3 : inR ws = rs) (q4 : inN ws = ns), AnsI X0 FInl [.obj 1 0, .obj 2 0] [zO, rdO ws false, opO k a b [] [] []] (.d (.tup [])) [zO, rdO w4 b4, opO k a b [] rs ns]
theorem inE0 : inE0_T := fun ws w4 b4 rs ns k a b hl hs q1 q2 q3 q4 => inE ws w4 b4 rs ns k a b [] hl hs q1 q2 q3 q4
def psInlay1_T : Prop := ∀ (line : Str) (w1 : List Str) (hl : line.length ≤ 1000000) (hn : hasC 10 line = false) (e1 : wordV (pieces 32 line) false = [105, 110, 108, 97, 121]) (e2 : wordW (pieces 32 line) false = w1) (e3 : wordB (pieces 32 line) false = false) (w4 : List Str) (b4 : Bool) (rs : List Int) (ns : List Inl) (s1 : Sm w1) (hl1 : w1.length ≤ 1000000) (q1 : inW w1 = w4) (q2 : inB w1 = b4) (q3 : inR w1 = rs) (q4 : inN w1 = ns) (hb : b4 = true), Ans X0 FPs [.d (.str line)] errR
def psInlay2_T : Prop := ∀ (line : Str) (w1 : List Str) (hl : line.length ≤ 1000000) (hn : hasC 10 line = false) (e1 : wordV (pieces 32 line) false = [105, 110, 108, 97, 121]) (e2 : wordW (pieces 32 line) false = w1) (e3 : wordB (pieces 32 line) false = false) (w4 : List Str) (b4 : Bool) (rs : List Int) (ns : List Inl) (s1 : Sm w1) (hl1 : w1.length ≤ 1000000) (q1 : inW w1 = w4) (q2 : inB w1 = b4) (q3 : inR w1 = rs) (q4 : inN w1 = ns) (hb : b4 = false) (hm : w4.length = 0), Ans X0 FPs [.d (.str line)] (okR 4 0 0 [] rs ns)
end Go.Proofs.YtgiahagbmgnmkaaDoor.Script
/- Script: paths, printed by a program of mine. -/
set_option maxRecDepth 100000
set_option linter.unusedSimpArgs false
set_option linter.unusedVariables false
namespace Go.Proofs.YtgiahagbmgnmkaaDoor.Script
open Go Pv G
set_option maxHeartbeats 4000000 in
theorem psInlay1 : psInlay1_T := by
  intro line w1 hl hn e1 e2 e3 w4 b4 rs ns s1 hl1 q1 q2 q3 q4 hb
  have h0 : (hasC (10 : UInt8) line) = false := by (first | assumption | (((try simp only [SA] at *); (try simp (disch := omega) only [SB, reduceCtorEq] at *)) <;> first | omega | assumption | (refine ⟨?_, ?_⟩ <;> assumption) | (refine ⟨?_, ?_, ?_⟩ <;> assumption) | (intros; assumption) | (right; right; assumption) | (right; left; assumption) | (left; assumption)))
  have h1 : (b4) = true := by (first | assumption | (((try simp only [SA] at *); (try simp (disch := omega) only [SB, reduceCtorEq] at *)) <;> first | omega | assumption | (refine ⟨?_, ?_⟩ <;> assumption) | (refine ⟨?_, ?_, ?_⟩ <;> assumption) | (intros; assumption) | (right; right; assumption) | (right; left; assumption) | (left; assumption)))
  exact pV 12 [(0, .v (V.d (D.bool (hasC (10 : UInt8) line)))), (1, bf), (2, .v (V.d (strsD (pieces (32 : UInt8) line)))), (3, .c (V.d (D.str [(105 : UInt8), (110 : UInt8), (108 : UInt8), (97 : UInt8), (121 : UInt8)])) ([(Ob.cells [(V.d (D.int IntKind.i64 (0 : Int))), (V.d (D.int IntKind.i64 (0 : Int))), (V.d (D.int IntKind.i64 (0 : Int))), (V.tail (nat_lit 48) [] (nat_lit 0)), (V.tail (nat_lit 3) [] (nat_lit 0)), (V.tail (nat_lit 60) [] (nat_lit 0))]), (rdO w1 false), (Ob.cells [(V.d (D.int IntKind.i64 (0 : Int))), (V.d (D.int IntKind.i64 (0 : Int))), (V.d (D.int IntKind.i64 (0 : Int))), (V.tail (nat_lit 48) [] (nat_lit 0)), (V.tail (nat_lit 3) [] (nat_lit 0)), (V.tail (nat_lit 60) [] (nat_lit 0))])])), (4, .v (V.d (D.bool ([(105 : UInt8), (110 : UInt8), (108 : UInt8), (97 : UInt8), (121 : UInt8)] == [(101 : UInt8), (100 : UInt8), (105 : UInt8), (116 : UInt8)])))), (6, .v (V.d (D.bool ([(105 : UInt8), (110 : UInt8), (108 : UInt8), (97 : UInt8), (121 : UInt8)] == [(102 : UInt8), (111 : UInt8), (108 : UInt8), (100 : UInt8)])))), (8, .v (V.d (D.bool ([(105 : UInt8), (110 : UInt8), (108 : UInt8), (97 : UInt8), (121 : UInt8)] == [(117 : UInt8), (110 : UInt8), (102 : UInt8), (111 : UInt8), (108 : UInt8), (100 : UInt8)])))), (10, .v (V.d (D.bool ([(105 : UInt8), (110 : UInt8), (108 : UInt8), (97 : UInt8), (121 : UInt8)] == [(105 : UInt8), (110 : UInt8), (108 : UInt8), (97 : UInt8), (121 : UInt8)])))), (12, .c (V.d (D.tup [])) ([zO, (rdO w4 b4), (opO (4 : Int) (0 : Int) (0 : Int) [] rs ns)])), (14, bt), (15, bt), (16, bt), (17, bt), (18, bt), (19, bt), (20, bt)] (cP h1 (cP h1 (cP h1 (cP h1 (cP h1 (cP h1 (cP h1 (cE (@inE0 (w1) (w4) (b4) (rs) (ns) ((4 : Int)) ((0 : Int)) ((0 : Int)) hl1 s1 q1 q2 q3 q4) (cP (@strEq ([(105 : UInt8), (110 : UInt8), (108 : UInt8), (97 : UInt8), (121 : UInt8)]) ([(105 : UInt8), (110 : UInt8), (108 : UInt8), (97 : UInt8), (121 : UInt8)])) (cP (@strEq ([(105 : UInt8), (110 : UInt8), (108 : UInt8), (97 : UInt8), (121 : UInt8)]) ([(117 : UInt8), (110 : UInt8), (102 : UInt8), (111 : UInt8), (108 : UInt8), (100 : UInt8)])) (cP (@strEq ([(105 : UInt8), (110 : UInt8), (108 : UInt8), (97 : UInt8), (121 : UInt8)]) ([(102 : UInt8), (111 : UInt8), (108 : UInt8), (100 : UInt8)])) (cP (@strEq ([(105 : UInt8), (110 : UInt8), (108 : UInt8), (97 : UInt8), (121 : UInt8)]) ([(101 : UInt8), (100 : UInt8), (105 : UInt8), (116 : UInt8)])) (cE (@wordE (Ob.cells [(V.d (D.int IntKind.i64 (0 : Int))), (V.d (D.int IntKind.i64 (0 : Int))), (V.d (D.int IntKind.i64 (0 : Int))), (V.tail (nat_lit 48) [] (nat_lit 0)), (V.tail (nat_lit 3) [] (nat_lit 0)), (V.tail (nat_lit 60) [] (nat_lit 0))]) (pieces (32 : UInt8) line) (false) ([(Ob.cells [(V.d (D.int IntKind.i64 (0 : Int))), (V.d (D.int IntKind.i64 (0 : Int))), (V.d (D.int IntKind.i64 (0 : Int))), (V.tail (nat_lit 48) [] (nat_lit 0)), (V.tail (nat_lit 3) [] (nat_lit 0)), (V.tail (nat_lit 60) [] (nat_lit 0))])]) ([(105 : UInt8), (110 : UInt8), (108 : UInt8), (97 : UInt8), (121 : UInt8)]) (w1) (false) e1 e2 e3) (cC (@splitW (line) hl) (cP h0 (cC (@hasNl (line)) nilE)))))))))))))))) (by kernel_rfl) rfl rfl
set_option maxHeartbeats 4000000 in
theorem psInlay2 : psInlay2_T := by
  intro line w1 hl hn e1 e2 e3 w4 b4 rs ns s1 hl1 q1 q2 q3 q4 hb hm
  have h0 : (hasC (10 : UInt8) line) = false := by (first | assumption | (((try simp only [SA] at *); (try simp (disch := omega) only [SB, reduceCtorEq] at *)) <;> first | omega | assumption | (refine ⟨?_, ?_⟩ <;> assumption) | (refine ⟨?_, ?_, ?_⟩ <;> assumption) | (intros; assumption) | (right; right; assumption) | (right; left; assumption) | (left; assumption)))
  have h1 : (b4) = false := by (first | assumption | (((try simp only [SA] at *); (try simp (disch := omega) only [SB, reduceCtorEq] at *)) <;> first | omega | assumption | (refine ⟨?_, ?_⟩ <;> assumption) | (refine ⟨?_, ?_, ?_⟩ <;> assumption) | (intros; assumption) | (right; right; assumption) | (right; left; assumption) | (left; assumption)))
  have h2 : (decide ((↑(List.length w4) : Int) > (0 : Int))) = false := by (first | assumption | (((try simp only [SA] at *); (try simp (disch := omega) only [SB, reduceCtorEq] at *)) <;> first | omega | assumption | (refine ⟨?_, ?_⟩ <;> assumption) | (refine ⟨?_, ?_, ?_⟩ <;> assumption) | (intros; assumption) | (right; right; assumption) | (right; left; assumption) | (left; assumption)))
  exact pV 12 [(0, .v (V.d (D.bool (hasC (10 : UInt8) line)))), (1, bf), (2, .v (V.d (strsD (pieces (32 : UInt8) line)))), (3, .c (V.d (D.str [(105 : UInt8), (110 : UInt8), (108 : UInt8), (97 : UInt8), (121 : UInt8)])) ([(Ob.cells [(V.d (D.int IntKind.i64 (0 : Int))), (V.d (D.int IntKind.i64 (0 : Int))), (V.d (D.int IntKind.i64 (0 : Int))), (V.tail (nat_lit 48) [] (nat_lit 0)), (V.tail (nat_lit 3) [] (nat_lit 0)), (V.tail (nat_lit 60) [] (nat_lit 0))]), (rdO w1 false), (Ob.cells [(V.d (D.int IntKind.i64 (0 : Int))), (V.d (D.int IntKind.i64 (0 : Int))), (V.d (D.int IntKind.i64 (0 : Int))), (V.tail (nat_lit 48) [] (nat_lit 0)), (V.tail (nat_lit 3) [] (nat_lit 0)), (V.tail (nat_lit 60) [] (nat_lit 0))])])), (4, .v (V.d (D.bool ([(105 : UInt8), (110 : UInt8), (108 : UInt8), (97 : UInt8), (121 : UInt8)] == [(101 : UInt8), (100 : UInt8), (105 : UInt8), (116 : UInt8)])))), (6, .v (V.d (D.bool ([(105 : UInt8), (110 : UInt8), (108 : UInt8), (97 : UInt8), (121 : UInt8)] == [(102 : UInt8), (111 : UInt8), (108 : UInt8), (100 : UInt8)])))), (8, .v (V.d (D.bool ([(105 : UInt8), (110 : UInt8), (108 : UInt8), (97 : UInt8), (121 : UInt8)] == [(117 : UInt8), (110 : UInt8), (102 : UInt8), (111 : UInt8), (108 : UInt8), (100 : UInt8)])))), (10, .v (V.d (D.bool ([(105 : UInt8), (110 : UInt8), (108 : UInt8), (97 : UInt8), (121 : UInt8)] == [(105 : UInt8), (110 : UInt8), (108 : UInt8), (97 : UInt8), (121 : UInt8)])))), (12, .c (V.d (D.tup [])) ([zO, (rdO w4 b4), (opO (4 : Int) (0 : Int) (0 : Int) [] rs ns)])), (14, bf), (15, bf), (16, bf), (17, bf), (19, bf), (21, bf), (23, bf), (24, bf)] (cP h2 (cP h1 (cP h1 (cP h1 (cP h1 (cP h1 (cP h1 (cP h1 (cE (@inE0 (w1) (w4) (b4) (rs) (ns) ((4 : Int)) ((0 : Int)) ((0 : Int)) hl1 s1 q1 q2 q3 q4) (cP (@strEq ([(105 : UInt8), (110 : UInt8), (108 : UInt8), (97 : UInt8), (121 : UInt8)]) ([(105 : UInt8), (110 : UInt8), (108 : UInt8), (97 : UInt8), (121 : UInt8)])) (cP (@strEq ([(105 : UInt8), (110 : UInt8), (108 : UInt8), (97 : UInt8), (121 : UInt8)]) ([(117 : UInt8), (110 : UInt8), (102 : UInt8), (111 : UInt8), (108 : UInt8), (100 : UInt8)])) (cP (@strEq ([(105 : UInt8), (110 : UInt8), (108 : UInt8), (97 : UInt8), (121 : UInt8)]) ([(102 : UInt8), (111 : UInt8), (108 : UInt8), (100 : UInt8)])) (cP (@strEq ([(105 : UInt8), (110 : UInt8), (108 : UInt8), (97 : UInt8), (121 : UInt8)]) ([(101 : UInt8), (100 : UInt8), (105 : UInt8), (116 : UInt8)])) (cE (@wordE (Ob.cells [(V.d (D.int IntKind.i64 (0 : Int))), (V.d (D.int IntKind.i64 (0 : Int))), (V.d (D.int IntKind.i64 (0 : Int))), (V.tail (nat_lit 48) [] (nat_lit 0)), (V.tail (nat_lit 3) [] (nat_lit 0)), (V.tail (nat_lit 60) [] (nat_lit 0))]) (pieces (32 : UInt8) line) (false) ([(Ob.cells [(V.d (D.int IntKind.i64 (0 : Int))), (V.d (D.int IntKind.i64 (0 : Int))), (V.d (D.int IntKind.i64 (0 : Int))), (V.tail (nat_lit 48) [] (nat_lit 0)), (V.tail (nat_lit 3) [] (nat_lit 0)), (V.tail (nat_lit 60) [] (nat_lit 0))])]) ([(105 : UInt8), (110 : UInt8), (108 : UInt8), (97 : UInt8), (121 : UInt8)]) (w1) (false) e1 e2 e3) (cC (@splitW (line) hl) (cP h0 (cC (@hasNl (line)) nilE))))))))))))))))) (by kernel_rfl) rfl rfl
end Go.Proofs.YtgiahagbmgnmkaaDoor.Script
/- Script: plain law of Parse: what the reader makes of words is what the reference makes of them. -/
set_option linter.unusedVariables false
set_option linter.unusedSimpArgs false
namespace Go.Proofs.YtgiahagbmgnmkaaDoor.Script
open Go Pv G
/- a word's text, as the reference tells it -/
def NoNl (w : Str) : Prop := ∀ j, byteAt w j ≠ 10
def toldF (w : Str) : Nat → Nat → Str → Option Str
  | 0, _, s => some s
  | f + 1, i, s =>
    if i < w.length then
      if byteAt w i = 9 ∨ byteAt w i = 10 then none
      else if byteAt w i ≠ 92 then toldF w f (i + 1) (s ++ toBs [byteAt w i])
      else if i + 1 = w.length then none
      else if (plainC (byteAt w (i + 1))).isSome then toldF w f (i + 2) (s ++ toBs [(plainC (byteAt w (i + 1))).getD 0])
      else none
    else some s
def toldO (w : Str) : Option Str := toldF w (w.length + 1) 0 []
def tdB (w : Str) : Bool := if w = [92, 101] then true else (toldO w).isSome && decide (0 < w.length)
def tdV (w : Str) : Str := if w = [92, 101] then [] else (toldO w).getD []
def TabIn (w : Str) (i : Nat) : Prop := ∃ j, i ≤ j ∧ j < w.length ∧ byteAt w j = 9
theorem tabIn1 {w : Str} {i : Nat} (h9 : byteAt w i ≠ 9) : TabIn w i ↔ TabIn w (i + 1) := by
  constructor
  · rintro ⟨j, a, b, c⟩
    by_cases he : j = i
    · subst he; exact absurd c h9
    · exact ⟨j, by omega, b, c⟩
  · rintro ⟨j, a, b, c⟩; exact ⟨j, by omega, b, c⟩
theorem toldF_eq (w : Str) (hn : NoNl w) : ∀ f i out, i ≤ w.length → w.length < i + f →
    ((textF w f i out).2 = true ∨ TabIn w i → toldF w f i (toBs out) = none) ∧ (¬ ((textF w f i out).2 = true ∨ TabIn w i) → toldF w f i (toBs out) = some (toBs (textF w f i out).1)) := by
  intro f
  induction f with
  | zero => intro i out h1 h2; omega
  | succ f ih =>
    intro i out h1 h2
    rw [toldF, textF]
    by_cases hi : i < w.length
    · simp only [if_pos hi]
      by_cases h9 : byteAt w i = 9
      · rw [if_pos (Or.inl h9)]
        exact ⟨fun _ => rfl, fun h => absurd (Or.inr ⟨i, Nat.le_refl _, hi, h9⟩) h⟩
      · have h10 := hn i
        have hno : ¬ (byteAt w i = 9 ∨ byteAt w i = 10) := by rintro (h | h); exact h9 h; exact h10 h
        simp only [if_neg hno]
        by_cases h92 : byteAt w i ≠ 92
        · simp only [if_pos h92]
          have := ih (i + 1) (out ++ [byteAt w i]) (by omega) (by omega)
          rw [show toBs out ++ toBs [byteAt w i] = toBs (out ++ [byteAt w i]) by simp, tabIn1 h9]
          exact this
        · simp only [if_neg h92]
          by_cases hl : i + 1 = w.length
          · simp only [if_pos hl]
            exact ⟨fun _ => trivial, fun h => absurd (Or.inl trivial) h⟩
          · simp only [if_neg hl]
            by_cases hp : (plainC (byteAt w (i + 1))).isSome = true
            · simp only [if_pos hp]
              have h9' : byteAt w (i + 1) ≠ 9 := by
                intro h; rw [h] at hp; simp [plainC] at hp
              have := ih (i + 2) (out ++ [(plainC (byteAt w (i + 1))).getD 0]) (by omega) (by omega)
              rw [show toBs out ++ toBs [(plainC (byteAt w (i + 1))).getD 0] = toBs (out ++ [(plainC (byteAt w (i + 1))).getD 0]) by simp, tabIn1 h9, tabIn1 h9']
              exact this
            · simp only [if_neg hp]
              exact ⟨fun _ => trivial, fun h => absurd (Or.inl trivial) h⟩
    · simp only [if_neg hi]
      refine ⟨fun h => ?_, fun _ => trivial⟩
      rcases h with h | ⟨j, a, b, c⟩
      · cases h
      · omega
theorem hasC_iff (c : UInt8) (w : Str) : hasC c w = true ↔ ∃ j, j < w.length ∧ byteAt w j = c.toNat := by
  have h0 := indexByte_none w c
  have hc : hasC c w = true ↔ c ∈ w := by
    unfold hasC
    rw [decide_eq_true_iff]
    constructor
    · intro h; exact Classical.byContradiction fun hn => by have := h0.2 hn; omega
    · intro h; exact Classical.byContradiction fun hn => (h0.1 (by omega)) h
  rw [hc]
  constructor
  · intro h
    obtain ⟨j, hj, e⟩ := List.getElem_of_mem h
    exact ⟨j, hj, (byteAt_eq w j c hj).2 e⟩
  · rintro ⟨j, hj, e⟩
    have := (byteAt_eq w j c hj).1 e
    rw [← this]; exact List.getElem_mem hj
theorem nonl_of {w : Str} (h : hasC 10 w = false) : NoNl w := by
  intro j hj
  by_cases hl : j < w.length
  · have := (hasC_iff 10 w).2 ⟨j, hl, hj⟩
    rw [h] at this; cases this
  · unfold byteAt at hj
    rw [List.getD_eq_getElem?_getD, List.getElem?_eq_none (by omega)] at hj
    simp at hj
theorem toldO_eq (w : Str) (hn : NoNl w) : toldO w = if txtW w = true ∨ hasC 9 w = true then none else some (toBs (txtOut w)) := by
  have h := toldF_eq w hn (w.length + 1) 0 [] (by omega) (by omega)
  have e : hasC 9 w = true ↔ TabIn w 0 := by
    rw [hasC_iff]
    constructor
    · rintro ⟨j, a, b⟩; exact ⟨j, by omega, a, b⟩
    · rintro ⟨j, _, a, b⟩; exact ⟨j, a, b⟩
  unfold toldO
  by_cases hc : txtW w = true ∨ hasC 9 w = true
  · rw [if_pos hc]
    exact h.1 (hc.imp (fun x => x) e.1)
  · rw [if_neg hc]
    exact h.2 (fun hh => hc (hh.imp (fun x => x) e.2))
theorem tdB_eq {w : Str} (hn : NoNl w) : tdB w = if (w == [92, 101]) = true then true else !((w == []) || hasC 9 w || txtW w) := by
  unfold tdB
  by_cases h : w = [92, 101]
  · rw [if_pos h, if_pos (by simpa using h)]
  · rw [if_neg h, if_neg (by simpa using h), toldO_eq w hn]
    cases w with
    | nil => simp
    | cons c w =>
      have e : ((c :: w) == ([] : Str)) = false := rfl
      rw [e]
      cases h1 : hasC 9 (c :: w) <;> cases h2 : txtW (c :: w) <;> simp
theorem tdV_eq {w : Str} (hn : NoNl w) (hb : tdB w = true) : tdV w = if (w == [92, 101]) = true then [] else toBs (txtOut w) := by
  rw [tdB_eq hn] at hb
  unfold tdV
  by_cases h : w = [92, 101]
  · rw [if_pos h, if_pos (by simpa using h)]
  · rw [if_neg (by simpa using h)] at hb
    rw [if_neg h, if_neg (by simpa using h), toldO_eq w hn]
    rw [if_neg]
    · rfl
    · rintro (h | h) <;> rw [h] at hb <;> simp at hb
/- the reader, where there is a word -/
theorem wW {ws : List Str} (h : 0 < ws.length) : wordW ws false = ws.drop 1 := by unfold wordW; rw [if_pos ⟨rfl, h⟩]
theorem wV {ws : List Str} (h : 0 < ws.length) : wordV ws false = strAt ws 0 := by unfold wordV; rw [if_pos ⟨rfl, h⟩]
theorem wB {ws : List Str} (h : 0 < ws.length) : wordB ws false = false := by unfold wordB; rw [if_pos ⟨rfl, h⟩]
theorem wB0 {ws : List Str} (h : ¬ 0 < ws.length) (bad : Bool) : wordB ws bad = true := by unfold wordB; rw [if_neg (fun hh => h hh.2)]
theorem wBt (ws : List Str) : wordB ws true = true := by unfold wordB; rw [if_neg (by simp)]
theorem rBt (ws : List Str) : rnB ws true = true := by unfold rnB; rw [wBt]; rfl
theorem rB0 {ws : List Str} (h : ¬ 0 < ws.length) (bad : Bool) : rnB ws bad = true := by unfold rnB; rw [wB0 h]; rfl
theorem rB {ws : List Str} (h : 0 < ws.length) : rnB ws false = !numOkW (strAt ws 0) := by unfold rnB; rw [wB h, wV h]; simp
theorem rV {ws : List Str} (h : 0 < ws.length) (hn : numOkW (strAt ws 0) = true) : rnV ws false = numVW (strAt ws 0) := by unfold rnV; rw [rB h, wV h, hn]; rfl
theorem tBt (ws : List Str) : rtB ws true = true := by
  unfold rtB
  rw [show wordV ws true = [] by unfold wordV; rw [if_neg (by simp)], wBt]; rfl
theorem tB0 {ws : List Str} (h : ¬ 0 < ws.length) (bad : Bool) : rtB ws bad = true := by
  unfold rtB
  rw [show wordV ws bad = [] by unfold wordV; rw [if_neg (fun hh => h hh.2)], wB0 h]; rfl
theorem tB {ws : List Str} (h : 0 < ws.length) (hn : NoNl (strAt ws 0)) : rtB ws false = !tdB (strAt ws 0) := by
  rw [tdB_eq hn]
  unfold rtB
  rw [wV h, wB h]
  split <;> simp
theorem tV {ws : List Str} (h : 0 < ws.length) (hn : NoNl (strAt ws 0)) (hb : tdB (strAt ws 0) = true) : rtV ws false = tdV (strAt ws 0) := by
  rw [tdV_eq hn hb]
  unfold rtV
  rw [wV h]
theorem strAt_drop (ws : List Str) (n k : Nat) : strAt (ws.drop n) k = strAt ws (n + k) := by
  unfold strAt
  rw [List.getD_eq_getElem?_getD, List.getD_eq_getElem?_getD, List.getElem?_drop]
theorem strAt_take (ws : List Str) {n k : Nat} (h : k < n) : strAt (ws.take n) k = strAt ws k := by
  unfold strAt
  rw [List.getD_eq_getElem?_getD, List.getD_eq_getElem?_getD, List.getElem?_take]
  rw [if_pos h]
/- the reference's numbers -/
def numsF (l : List Str) : Nat → Nat → List Int → List Int
  | 0, _, out => out
  | f + 1, i, out => if i < l.length then if numOkW (strAt l i) = true then numsF l f (i + 1) (out ++ [numVW (strAt l i)]) else [] else out
def numsL (l : List Str) : List Int := numsF l (l.length + 1) 0 []
def intAt (l : List Int) (k : Nat) : Int := l.getD k 0
def okAll (l : List Str) : Bool := l.all numOkW
theorem numsF_ok (l : List Str) : ∀ f i out, i ≤ l.length → l.length < i + f → (∀ j, i ≤ j → j < l.length → numOkW (strAt l j) = true) → numsF l f i out = out ++ (l.drop i).map numVW := by
  intro f
  induction f with
  | zero => intro i out h1 h2; omega
  | succ f ih =>
    intro i out h1 h2 h
    simp only [numsF]
    by_cases hi : i < l.length
    · rw [if_pos hi, if_pos (h i (by omega) hi), ih (i + 1) _ (by omega) (by omega) (fun j hj => h j (by omega))]
      rw [List.drop_eq_getElem_cons hi, List.map_cons]
      have : strAt l i = l[i] := by unfold strAt; rw [List.getD_eq_getElem?_getD, List.getElem?_eq_getElem hi]; rfl
      rw [this]; simp
    · rw [if_neg hi, List.drop_of_length_le (by omega)]; simp
theorem numsF_no (l : List Str) : ∀ f i out, i ≤ l.length → l.length < i + f → (∃ j, i ≤ j ∧ j < l.length ∧ numOkW (strAt l j) = false) → numsF l f i out = [] := by
  intro f
  induction f with
  | zero => intro i out h1 h2; omega
  | succ f ih =>
    intro i out h1 h2 ⟨j, a, b, c⟩
    simp only [numsF]
    have hi : i < l.length := by omega
    rw [if_pos hi]
    by_cases hk : numOkW (strAt l i) = true
    · rw [if_pos hk]
      have : j ≠ i := by rintro rfl; rw [hk] at c; cases c
      exact ih (i + 1) _ (by omega) (by omega) ⟨j, by omega, b, c⟩
    · rw [if_neg hk]
theorem numsL_ok {l : List Str} (h : ∀ j, j < l.length → numOkW (strAt l j) = true) : numsL l = l.map numVW := by
  unfold numsL
  rw [numsF_ok l (l.length + 1) 0 [] (by omega) (by omega) (fun j _ => h j)]; simp
theorem numsL_no {l : List Str} (h : ∃ j, j < l.length ∧ numOkW (strAt l j) = false) : numsL l = [] := by
  obtain ⟨j, a, b⟩ := h
  exact numsF_no l (l.length + 1) 0 [] (by omega) (by omega) ⟨j, by omega, a, b⟩
theorem intAt_map (l : List Str) (k : Nat) (h : k < l.length) : intAt (l.map numVW) k = numVW (strAt l k) := by
  unfold intAt strAt
  rw [List.getD_eq_getElem?_getD, List.getD_eq_getElem?_getD, List.getElem?_map, List.getElem?_eq_getElem h]; rfl
/-- Of n words, all numbers, or none of the list. -/
theorem nums_take {ws : List Str} {a n : Nat} (h : a + n ≤ ws.length) (ho : ∀ k, k < n → numOkW (strAt ws (a + k)) = true) :
    (numsL ((ws.take (a + n)).drop a)).length = n ∧ ∀ k, k < n → intAt (numsL ((ws.take (a + n)).drop a)) k = numVW (strAt ws (a + k)) := by
  have hl : ((ws.take (a + n)).drop a).length = n := by simp; omega
  have hs : ∀ k, k < n → strAt ((ws.take (a + n)).drop a) k = strAt ws (a + k) := fun k hk => by rw [strAt_drop, strAt_take ws (by omega)]
  have e := numsL_ok (l := (ws.take (a + n)).drop a) (fun j hj => by rw [hl] at hj; rw [hs j hj]; exact ho j hj)
  rw [e]
  refine ⟨by rw [List.length_map, hl], fun k hk => ?_⟩
  rw [intAt_map _ k (by rw [hl]; exact hk), hs k hk]
theorem nums_bad {ws : List Str} {a n : Nat} (h : a + n ≤ ws.length) (ho : ∃ k, k < n ∧ numOkW (strAt ws (a + k)) = false) : numsL ((ws.take (a + n)).drop a) = [] := by
  obtain ⟨k, hk, hb⟩ := ho
  refine numsL_no ⟨k, by simp; omega, ?_⟩
  rw [strAt_drop, strAt_take ws (by omega)]; exact hb
/- the reference's loops -/
def mid (l : List Str) (a b : Nat) : List Str := (l.take b).drop a
def NoL (l : List Str) : Prop := ∀ k, NoNl (strAt l k)
theorem noDrop {l : List Str} (n : Nat) (h : NoL l) : NoL (l.drop n) := fun k => by rw [strAt_drop]; exact h _
def rfEd : Nat → List Str → List Edit → List Edit × Bool
  | 0, _, es => (es, true)
  | f + 1, l, es =>
    if 0 < l.length then
      if l.length < 3 then (es, false)
      else if (numsL (l.take 2)).length < 2 ∨ tdB (strAt l 2) = false then (es, false)
      else rfEd f (l.drop 3) (es ++ [(intAt (numsL (l.take 2)) 0, intAt (numsL (l.take 2)) 1, tdV (strAt l 2), ())])
    else (es, true)
def rfRm : Nat → List Str → List Int → List Str × List Int × Bool
  | 0, l, rs => (l, rs, true)
  | f + 1, l, rs =>
    if 0 < l.length then
      if strAt l 0 = [45] then
        if l.length < 2 then (l, rs, false)
        else if (numsL (mid l 1 2)).length < 1 then (l, rs, false)
        else rfRm f (l.drop 2) (rs ++ [intAt (numsL (mid l 1 2)) 0])
      else (l, rs, true)
    else (l, rs, true)
def rfAd : Nat → List Str → List Inl → List Inl × Bool
  | 0, _, ns => (ns, true)
  | f + 1, l, ns =>
    if 0 < l.length then
      if l.length < 6 then (ns, false)
      else if strAt l 0 = [43] then
        if (numsL (mid l 1 5)).length < 4 ∨ tdB (strAt l 5) = false then (ns, false)
        else rfAd f (l.drop 6) (ns ++ [(intAt (numsL (mid l 1 5)) 0, intAt (numsL (mid l 1 5)) 1, intAt (numsL (mid l 1 5)) 2, intAt (numsL (mid l 1 5)) 3, tdV (strAt l 5), ())])
      else (ns, false)
    else (ns, true)
theorem numsShort {ws : List Str} {a n : Nat} (h : a + n ≤ ws.length) (hn : 0 < n) : (numsL (mid ws a (a + n))).length < n ↔ ∃ k, k < n ∧ numOkW (strAt ws (a + k)) = false := by
  constructor
  · intro hl
    exact Classical.byContradiction fun hno => by
      have := (nums_take h (fun k hk => by
        cases hb : numOkW (strAt ws (a + k)) with
        | true => rfl
        | false => exact absurd ⟨k, hk, hb⟩ hno)).1
      unfold mid at hl
      omega
  · intro hx
    have := nums_bad h hx
    unfold mid
    rw [this]; exact hn
theorem numsAt {ws : List Str} {a n : Nat} (h : a + n ≤ ws.length) (hl : ¬ (numsL (mid ws a (a + n))).length < n) (hn : 0 < n) (k : Nat) (hk : k < n) : numOkW (strAt ws (a + k)) = true ∧ intAt (numsL (mid ws a (a + n))) k = numVW (strAt ws (a + k)) := by
  have ho : ∀ k, k < n → numOkW (strAt ws (a + k)) = true := fun k hk => by
    cases hb : numOkW (strAt ws (a + k)) with
    | true => rfl
    | false => exact absurd ((numsShort h hn).2 ⟨k, hk, hb⟩) hl
  exact ⟨ho k hk, (nums_take h ho).2 k hk⟩
/- one step of the reader -/
theorem nxY {ws : List Str} (h : 0 < ws.length) (hn : numOkW (strAt ws 0) = true) : nx (ws, false) = (ws.drop 1, false) ∧ nv (ws, false) = numVW (strAt ws 0) := by
  refine ⟨?_, rV h hn⟩
  show (wordW ws false, rnB ws false) = _
  rw [wW h, rB h, hn]; rfl
theorem nxN {ws : List Str} (h : ¬ 0 < ws.length ∨ numOkW (strAt ws 0) = false) : (nx (ws, false)).2 = true := by
  show rnB ws false = true
  by_cases h0 : 0 < ws.length
  · rw [rB h0]
    rcases h with h | h
    · exact absurd h0 h
    · rw [h]; rfl
  · exact rB0 h0 false
theorem nxT {p : List Str × Bool} (h : p.2 = true) : (nx p).2 = true := by
  show rnB p.1 p.2 = true
  rw [h]; exact rBt _
theorem txT {p : List Str × Bool} (h : p.2 = true) : (tx p).2 = true := by
  show rtB p.1 p.2 = true
  rw [h]; exact tBt _
theorem txY {ws : List Str} (h : 0 < ws.length) (hn : NoNl (strAt ws 0)) (hb : tdB (strAt ws 0) = true) : tx (ws, false) = (ws.drop 1, false) ∧ tv (ws, false) = tdV (strAt ws 0) := by
  refine ⟨?_, tV h hn hb⟩
  show (wordW ws false, rtB ws false) = _
  rw [wW h, tB h hn, hb]; rfl
theorem txN {ws : List Str} (hn : NoNl (strAt ws 0)) (h : ¬ 0 < ws.length ∨ tdB (strAt ws 0) = false) : (tx (ws, false)).2 = true := by
  show rtB ws false = true
  by_cases h0 : 0 < ws.length
  · rw [tB h0 hn]
    rcases h with h | h
    · exact absurd h0 h
    · rw [h]; rfl
  · exact tB0 h0 false
/-- n numbers, one behind the other. -/
def nxs : Nat → List Str × Bool → List Str × Bool
  | 0, p => p
  | n + 1, p => nx (nxs n p)
theorem nxsT {p : List Str × Bool} (h : p.2 = true) : ∀ n, (nxs n p).2 = true
  | 0 => h
  | n + 1 => nxT (nxsT h n)
theorem nxsY {ws : List Str} : ∀ n, n ≤ ws.length → (∀ k, k < n → numOkW (strAt ws k) = true) → nxs n (ws, false) = (ws.drop n, false)
  | 0, _, _ => by simp [nxs]
  | n + 1, h, ho => by
    have := nxsY n (by omega) (fun k hk => ho k (by omega))
    show nx (nxs n (ws, false)) = _
    rw [this, (nxY (by simp; omega) (by rw [strAt_drop]; exact ho n (by omega))).1, List.drop_drop]
theorem nxsN {ws : List Str} (n : Nat) (h : ws.length < n ∨ ∃ k, k < n ∧ numOkW (strAt ws k) = false) : (nxs n (ws, false)).2 = true := by
  induction n with
  | zero => rcases h with h | ⟨k, hk, _⟩ <;> omega
  | succ n ih =>
    by_cases hp : ws.length < n ∨ ∃ k, k < n ∧ numOkW (strAt ws k) = false
    · exact nxT (ih hp)
    · have ho : ∀ k, k < n → numOkW (strAt ws k) = true := fun k hk => by
        cases hb : numOkW (strAt ws k) with
        | true => rfl
        | false => exact absurd (Or.inr ⟨k, hk, hb⟩) hp
      have hn : n ≤ ws.length := by
        by_cases hx : ws.length < n
        · exact absurd (Or.inl hx) hp
        · omega
      show (nx (nxs n (ws, false))).2 = true
      rw [nxsY n hn ho]
      refine nxN ?_
      rcases h with h | ⟨k, hk, hb⟩
      · left; simp; omega
      · right
        rw [strAt_drop]
        by_cases he : k = n
        · subst he; exact hb
        · have := ho k (by omega); rw [hb] at this; cases this
theorem nvAt {ws : List Str} (n : Nat) (h : n < ws.length) (ho : ∀ k, k < n + 1 → numOkW (strAt ws k) = true) : nv (nxs n (ws, false)) = numVW (strAt ws n) := by
  rw [nxsY n (by omega) (fun k hk => ho k (by omega)), (nxY (by simp; omega) (by rw [strAt_drop]; exact ho n (by omega))).2, strAt_drop]; rfl
/-- n numbers and a text. -/
theorem ntY {ws : List Str} (n : Nat) (h : n < ws.length) (ho : ∀ k, k < n → numOkW (strAt ws k) = true) (hn : NoL ws) (ht : tdB (strAt ws n) = true) : tx (nxs n (ws, false)) = (ws.drop (n + 1), false) ∧ tv (nxs n (ws, false)) = tdV (strAt ws n) := by
  rw [nxsY n (by omega) ho]
  have e : strAt (ws.drop n) 0 = strAt ws n := by rw [strAt_drop]; rfl
  have := txY (ws := ws.drop n) (by simp; omega) (by rw [e]; exact hn n) (by rw [e]; exact ht)
  rw [this.1, this.2, e, List.drop_drop]
  exact ⟨rfl, rfl⟩
theorem ntN {ws : List Str} (n : Nat) (hn : NoL ws) (h : ws.length ≤ n ∨ (∃ k, k < n ∧ numOkW (strAt ws k) = false) ∨ tdB (strAt ws n) = false) : (tx (nxs n (ws, false))).2 = true := by
  by_cases hp : ws.length < n ∨ ∃ k, k < n ∧ numOkW (strAt ws k) = false
  · exact txT (nxsN n hp)
  · have ho : ∀ k, k < n → numOkW (strAt ws k) = true := fun k hk => by
      cases hb : numOkW (strAt ws k) with
      | true => rfl
      | false => exact absurd (Or.inr ⟨k, hk, hb⟩) hp
    have hl : n ≤ ws.length := by
      by_cases hx : ws.length < n
      · exact absurd (Or.inl hx) hp
      · omega
    rw [nxsY n hl ho]
    have e : strAt (ws.drop n) 0 = strAt ws n := by rw [strAt_drop]; rfl
    refine txN (by rw [e]; exact hn n) ?_
    rw [e]
    rcases h with h | h | h
    · left; simp; omega
    · exact absurd (Or.inr h) hp
    · exact Or.inr h
/- edits -/
theorem edF_t (f : Nat) (ws : List Str) (es : List Edit) : (edF f ws true es).2.1 = true := by
  cases f <;> simp [edF]
theorem ed_eq : ∀ f ws es, ws.length < f → NoL ws →
    ((rfEd f ws es).2 = true → (edF f ws false es).2.1 = false ∧ (edF f ws false es).1.length = 0 ∧ (edF f ws false es).2.2 = (rfEd f ws es).1) ∧ ((rfEd f ws es).2 = false → (edF f ws false es).2.1 = true) := by
  intro f
  induction f with
  | zero => intro ws es h; omega
  | succ f ih =>
    intro ws es h hn
    rw [rfEd, edF]
    by_cases h0 : 0 < ws.length
    · rw [if_pos h0, if_pos (show false = false ∧ 0 < ws.length from ⟨rfl, h0⟩)]
      have eS : edS ws = tx (nxs 2 (ws, false)) := rfl
      by_cases h3 : ws.length < 3
      · rw [if_pos h3]
        have hb : (edS ws).2 = true := by rw [eS]; exact ntN 2 hn (Or.inl (by omega))
        rw [hb]
        exact ⟨(by intro h; cases h), fun _ => edF_t _ _ _⟩
      · rw [if_neg h3]
        have e2 : ws.take 2 = mid ws 0 (0 + 2) := by simp [mid]
        by_cases hc : (numsL (ws.take 2)).length < 2 ∨ tdB (strAt ws 2) = false
        · rw [if_pos hc]
          have hb : (edS ws).2 = true := by
            rw [eS]
            refine ntN 2 hn (Or.inr ?_)
            rcases hc with hc | hc
            · left
              rw [e2] at hc
              obtain ⟨k, hk, hb⟩ := (numsShort (by omega) (by omega)).1 hc
              exact ⟨k, hk, by rwa [Nat.zero_add] at hb⟩
            · exact Or.inr hc
          rw [hb]
          exact ⟨(by intro h; cases h), fun _ => edF_t _ _ _⟩
        · rw [if_neg hc]
          have hl : ¬ (numsL (mid ws 0 (0 + 2))).length < 2 := by rw [← e2]; exact fun h => hc (Or.inl h)
          have ht : tdB (strAt ws 2) = true := by
            cases hb : tdB (strAt ws 2) with
            | true => rfl
            | false => exact absurd (Or.inr hb) hc
          have hk := numsAt (ws := ws) (a := 0) (n := 2) (by omega) hl (by omega)
          have ho : ∀ k, k < 2 → numOkW (strAt ws k) = true := fun k h => by have := (hk k h).1; rwa [Nat.zero_add] at this
          have hS := ntY 2 (by omega) ho hn ht
          have hS1 : edS ws = (ws.drop 3, false) := hS.1
          have hI : edI ws = (intAt (numsL (ws.take 2)) 0, intAt (numsL (ws.take 2)) 1, tdV (strAt ws 2), ()) := by
            rw [e2, (hk 0 (by omega)).2, (hk 1 (by omega)).2]
            show (nv (nxs 0 (ws, false)), nv (nxs 1 (ws, false)), tv (nxs 2 (ws, false)), ()) = _
            rw [nvAt 0 (by omega) (fun k h => ho k (by omega)), nvAt 1 (by omega) (fun k h => ho k (by omega)), hS.2]
          rw [hS1, hI]
          exact ih (ws.drop 3) _ (by simp; omega) (noDrop 3 hn)
    · rw [if_neg h0, if_neg (fun hh => h0 hh.2)]
      exact ⟨fun _ => ⟨rfl, by show ws.length = 0; omega, rfl⟩, fun h => by cases h⟩
/- inlays -/
theorem rmF_t (f : Nat) (ws : List Str) (rs : List Int) : (rmF f ws true rs).2.1 = true := by
  cases f <;> simp [rmF]
theorem adF_t (f : Nat) (ws : List Str) (ns : List Inl) : (adF f ws true ns).2.1 = true := by
  cases f <;> simp [adF]
theorem rm_eq : ∀ f ws rs, ws.length < f →
    ((rfRm f ws rs).2.2 = true → (rmF f ws false rs) = ((rfRm f ws rs).1, false, (rfRm f ws rs).2.1)) ∧ ((rfRm f ws rs).2.2 = false → (rmF f ws false rs).2.1 = true) := by
  intro f
  induction f with
  | zero => intro ws es h; omega
  | succ f ih =>
    intro ws rs h
    rw [rfRm, rmF]
    by_cases h0 : 0 < ws.length
    · rw [if_pos h0]
      by_cases hm : strAt ws 0 = [45]
      · rw [if_pos hm, if_pos (show false = false ∧ 0 < ws.length ∧ (strAt ws 0 == [45]) = true from ⟨rfl, h0, by simpa using hm⟩)]
        rw [wW h0, wB h0]
        have e1 : strAt (ws.drop 1) 0 = strAt ws (1 + 0) := strAt_drop _ _ _
        by_cases h2 : ws.length < 2
        · rw [if_pos h2]
          have hb : rnB (ws.drop 1) false = true := rB0 (by simp; omega) false
          rw [hb]
          exact ⟨(by intro h; cases h), fun _ => rmF_t _ _ _⟩
        · rw [if_neg h2]
          by_cases hc : (numsL (mid ws 1 2)).length < 1
          · rw [if_pos hc]
            obtain ⟨k, hk, hb⟩ := (numsShort (ws := ws) (a := 1) (n := 1) (by omega) (by omega)).1 hc
            obtain rfl : k = 0 := by omega
            have hb : rnB (ws.drop 1) false = true := by rw [rB (by simp; omega), e1, hb]; rfl
            rw [hb]
            exact ⟨(by intro h; cases h), fun _ => rmF_t _ _ _⟩
          · rw [if_neg hc]
            have hk := numsAt (ws := ws) (a := 1) (n := 1) (by omega) hc (by omega) 0 (by omega)
            have hb : rnB (ws.drop 1) false = false := by rw [rB (by simp; omega), e1, hk.1]; rfl
            have hv : rnV (ws.drop 1) false = intAt (numsL (mid ws 1 2)) 0 := by
              rw [rV (by simp; omega) (by rw [e1]; exact hk.1), e1]; exact hk.2.symm
            have hw : wordW (ws.drop 1) false = ws.drop 2 := by rw [wW (by simp; omega), List.drop_drop]
            rw [hb, hv, hw]
            exact ih (ws.drop 2) _ (by simp; omega)
      · rw [if_neg hm, if_neg (fun hh => hm (by simpa using hh.2.2))]
        exact ⟨fun _ => rfl, fun h => by cases h⟩
    · rw [if_neg h0, if_neg (fun hh => h0 hh.2.1)]
      exact ⟨fun _ => rfl, fun h => by cases h⟩
theorem ad_eq : ∀ f ws ns, ws.length < f → NoL ws →
    ((rfAd f ws ns).2 = true → (adF f ws false ns).2.1 = false ∧ (adF f ws false ns).1.length = 0 ∧ (adF f ws false ns).2.2 = (rfAd f ws ns).1) ∧ ((rfAd f ws ns).2 = false → (adF f ws false ns).2.1 = true) := by
  intro f
  induction f with
  | zero => intro ws es h; omega
  | succ f ih =>
    intro ws ns h hn
    rw [rfAd, adF]
    by_cases h0 : 0 < ws.length
    · rw [if_pos h0, if_pos (show false = false ∧ 0 < ws.length from ⟨rfl, h0⟩)]
      have eW : wi1 ws = ws.drop 1 := wW h0
      have eS : adS ws = tx (nxs 4 (ws.drop 1, bi1 ws)) := by rw [← eW]; rfl
      have hn1 := noDrop 1 hn
      by_cases hp : strAt ws 0 = [43]
      · have eb : bi1 ws = false := by show (!(wordV ws false == [43])) = false; rw [wV h0, hp]; rfl
        rw [eb] at eS
        by_cases h6 : ws.length < 6
        · rw [if_pos h6]
          have hb : (adS ws).2 = true := by rw [eS]; exact ntN 4 hn1 (Or.inl (by simp; omega))
          rw [hb]
          exact ⟨(by intro h; cases h), fun _ => adF_t _ _ _⟩
        · rw [if_neg h6, if_pos hp]
          have e5 : strAt (ws.drop 1) 4 = strAt ws 5 := strAt_drop _ _ _
          by_cases hc : (numsL (mid ws 1 5)).length < 4 ∨ tdB (strAt ws 5) = false
          · rw [if_pos hc]
            have hb : (adS ws).2 = true := by
              rw [eS]
              refine ntN 4 hn1 (Or.inr ?_)
              rcases hc with hc | hc
              · left
                obtain ⟨k, hk, hb⟩ := (numsShort (ws := ws) (a := 1) (n := 4) (by omega) (by omega)).1 hc
                exact ⟨k, hk, by rw [strAt_drop]; exact hb⟩
              · right; rw [e5]; exact hc
            rw [hb]
            exact ⟨(by intro h; cases h), fun _ => adF_t _ _ _⟩
          · rw [if_neg hc]
            have hl : ¬ (numsL (mid ws 1 (1 + 4))).length < 4 := fun h => hc (Or.inl h)
            have ht : tdB (strAt ws 5) = true := by
              cases hb : tdB (strAt ws 5) with
              | true => rfl
              | false => exact absurd (Or.inr hb) hc
            have hk := numsAt (ws := ws) (a := 1) (n := 4) (by omega) hl (by omega)
            have ho : ∀ k, k < 4 → numOkW (strAt (ws.drop 1) k) = true := fun k h => by rw [strAt_drop]; exact (hk k h).1
            have hS := ntY (ws := ws.drop 1) 4 (by simp; omega) ho hn1 (by rw [e5]; exact ht)
            have hS1 : adS ws = (ws.drop 6, false) := by rw [eS, hS.1, List.drop_drop]
            have hv : ∀ k, k < 4 → nv (nxs k (ws.drop 1, false)) = intAt (numsL (mid ws 1 5)) k := fun k hk4 => by
              rw [nvAt k (by simp; omega) (fun j hj => ho j (by omega)), strAt_drop]; exact (hk k hk4).2.symm
            have hI : adI ws = (intAt (numsL (mid ws 1 5)) 0, intAt (numsL (mid ws 1 5)) 1, intAt (numsL (mid ws 1 5)) 2, intAt (numsL (mid ws 1 5)) 3, tdV (strAt ws 5), ()) := by
              show (nv (nxs 0 (wi1 ws, bi1 ws)), nv (nxs 1 (wi1 ws, bi1 ws)), nv (nxs 2 (wi1 ws, bi1 ws)), nv (nxs 3 (wi1 ws, bi1 ws)), tv (nxs 4 (wi1 ws, bi1 ws)), ()) = _
              rw [eW, eb, hv 0 (by omega), hv 1 (by omega), hv 2 (by omega), hv 3 (by omega), hS.2, e5]
            rw [hS1, hI]
            exact ih (ws.drop 6) _ (by simp; omega) (noDrop 6 hn)
      · have eb : bi1 ws = true := by
          show (!(wordV ws false == [43])) = true
          rw [wV h0]
          cases hx : (strAt ws 0 == [43]) with
          | true => exact absurd (by simpa using hx) hp
          | false => rfl
        rw [eb] at eS
        have hb : (adS ws).2 = true := by rw [eS]; exact txT (nxsT rfl 4)
        rw [if_neg hp, hb]
        refine ⟨?_, fun _ => adF_t _ _ _⟩
        split <;> intro h <;> cases h
    · rw [if_neg h0, if_neg (fun hh => h0 hh.2)]
      exact ⟨fun _ => ⟨rfl, by show ws.length = 0; omega, rfl⟩, fun h => by cases h⟩
/- a line, as the reference reads it -/
abbrev Opn := Int × Int × Int × List Edit × List Int × List Inl
def rfEdits (l : List Str) : Opn × Bool := ((1, 0, 0, (rfEd (l.length + 1) l []).1, [], []), (rfEd (l.length + 1) l []).2)
def rfRs (l : List Str) : List Str × List Int × Bool := rfRm (l.length + 1) l []
def rfAs (l : List Str) : List Inl × Bool := rfAd (l.length + 1) l []
def rfInlays (l : List Str) : Opn × Bool :=
  if (rfRs l).2.2 = true then ((4, 0, 0, [], (rfRs l).2.1, (rfAs (rfRs l).1).1), (rfAs (rfRs l).1).2) else ((4, 0, 0, [], (rfRs l).2.1, []), false)
def op0 : Opn := (0, 0, 0, [], [], [])
def rfSized (k : Int) (c : Nat) (l : List Str) : Opn × Bool :=
  if l.length = c ∧ (numsL l).length = c then ((k, if 0 < c then intAt (numsL l) 0 else 0, if 1 < c then intAt (numsL l) 1 else 0, [], [], []), true) else (op0, false)
def rfP (line : Str) : Opn × Bool :=
  if hasC 10 line = true then (op0, false)
  else
    if strAt (pieces 32 line) 0 = [101, 100, 105, 116] then rfEdits ((pieces 32 line).drop 1)
    else if strAt (pieces 32 line) 0 = [102, 111, 108, 100] then rfSized 2 2 ((pieces 32 line).drop 1)
    else if strAt (pieces 32 line) 0 = [117, 110, 102, 111, 108, 100] then rfSized 3 2 ((pieces 32 line).drop 1)
    else if strAt (pieces 32 line) 0 = [105, 110, 108, 97, 121] then rfInlays ((pieces 32 line).drop 1)
    else if strAt (pieces 32 line) 0 = [119, 105, 100, 116, 104] then rfSized 5 1 ((pieces 32 line).drop 1)
    else if strAt (pieces 32 line) 0 = [116, 97, 98] then rfSized 6 1 ((pieces 32 line).drop 1)
    else if strAt (pieces 32 line) 0 = [117, 110, 100, 111] then rfSized 7 0 ((pieces 32 line).drop 1)
    else if strAt (pieces 32 line) 0 = [114, 101, 100, 111] then rfSized 8 0 ((pieces 32 line).drop 1)
    else (op0, false)
theorem pieces_nonl {line : Str} (h : hasC 10 line = false) : NoL (pieces 32 line) := by
  have hm : ∀ (s : Str), ∀ p ∈ pieces 32 s, ∀ c ∈ p, c ∈ s := by
    intro s
    induction s with
    | nil => intro p hp c hc; simp [pieces] at hp; subst hp; cases hc
    | cons b s ih =>
      intro p hp c hc
      unfold pieces at hp
      split at hp
      · rcases List.mem_cons.1 hp with rfl | hp
        · cases hc
        · exact List.mem_cons_of_mem _ (ih p hp c hc)
      · rcases List.mem_cons.1 hp with rfl | hp
        · rcases List.mem_cons.1 hc with rfl | hc
          · exact List.mem_cons_self ..
          · obtain ⟨a, l, hl⟩ := List.exists_cons_of_ne_nil (pieces_ne 32 s)
            rw [hl] at hc
            exact List.mem_cons_of_mem _ (ih a (by rw [hl]; exact List.mem_cons_self ..) c hc)
        · exact List.mem_cons_of_mem _ (ih p (List.mem_of_mem_tail hp) c hc)
  intro k j hj
  by_cases hk : k < (pieces 32 line).length
  · have e : strAt (pieces 32 line) k = (pieces 32 line)[k] := by unfold strAt; rw [List.getD_eq_getElem?_getD, List.getElem?_eq_getElem hk]; rfl
    rw [e] at hj
    by_cases hl : j < ((pieces 32 line)[k]).length
    · have := (byteAt_eq _ j 10 hl).1 hj
      have hc := hm line _ (List.getElem_mem hk) _ (List.getElem_mem hl)
      rw [this] at hc
      have h0 := indexByte_none line 10
      unfold hasC at h
      have : Lib.indexByte line 10 < 0 := by
        have := of_decide_eq_false h; omega
      exact h0.1 this hc
    · unfold byteAt at hj
      rw [List.getD_eq_getElem?_getD, List.getElem?_eq_none (by omega)] at hj
      simp at hj
  · unfold strAt byteAt at hj
    rw [List.getD_eq_getElem?_getD (l := pieces 32 line), List.getElem?_eq_none (by omega)] at hj
    simp at hj
theorem rfEd_yes {l : List Str} (hn : NoL l) (h : (rfEdits l).2 = true) : edB l = false ∧ (edW l).length = 0 ∧ (rfEdits l).1 = (1, 0, 0, edE l, [], []) := by
  have := (ed_eq (l.length + 1) l [] (by omega) hn).1 h
  exact ⟨this.1, this.2.1, by unfold rfEdits edE; rw [this.2.2]⟩
theorem rfEd_no {l : List Str} (hn : NoL l) (h : (rfEdits l).2 = false) : edB l = true := (ed_eq (l.length + 1) l [] (by omega) hn).2 h
theorem rfRm_nol : ∀ f l rs, NoL l → NoL (rfRm f l rs).1 := by
  intro f
  induction f with
  | zero => intro l rs h; exact h
  | succ f ih =>
    intro l rs h
    rw [rfRm]
    split
    · split
      · split
        · exact h
        · split
          · exact h
          · exact ih _ _ (noDrop 2 h)
      · exact h
    · exact h
theorem rfIn_yes {l : List Str} (hn : NoL l) (h : (rfInlays l).2 = true) : inB l = false ∧ (inW l).length = 0 ∧ (rfInlays l).1 = (4, 0, 0, [], inR l, inN l) := by
  unfold rfInlays at h ⊢
  by_cases h1 : (rfRs l).2.2 = true
  · rw [if_pos h1] at h ⊢
    have e := (rm_eq (l.length + 1) l [] (by omega)).1 h1
    have eW : rmW l false = (rfRs l).1 := by unfold rmW; rw [e]; rfl
    have eB : rmB l false = false := by unfold rmB; rw [e]
    have eR : rmR l false = (rfRs l).2.1 := by unfold rmR; rw [e]; rfl
    have := (ad_eq ((rfRs l).1.length + 1) (rfRs l).1 [] (by omega) (rfRm_nol _ _ _ hn)).1 h
    unfold inB inW inR inN adB adW adN
    rw [eW, eB, eR]
    exact ⟨this.1, this.2.1, by rw [this.2.2]; rfl⟩
  · rw [if_neg h1] at h; cases h
theorem rfIn_no {l : List Str} (hn : NoL l) (h : (rfInlays l).2 = false) : inB l = true := by
  unfold rfInlays at h
  unfold inB adB
  by_cases h1 : (rfRs l).2.2 = true
  · rw [if_pos h1] at h
    have e := (rm_eq (l.length + 1) l [] (by omega)).1 h1
    have eW : rmW l false = (rfRs l).1 := by unfold rmW; rw [e]; rfl
    have eB : rmB l false = false := by unfold rmB; rw [e]
    rw [eW, eB]
    exact (ad_eq ((rfRs l).1.length + 1) (rfRs l).1 [] (by omega) (rfRm_nol _ _ _ hn)).2 h
  · have e := (rm_eq (l.length + 1) l [] (by omega)).2 (by
      cases hb : (rfRm (l.length + 1) l []).2.2 with
      | true => exact absurd hb h1
      | false => rfl)
    have eB : rmB l false = true := e
    rw [eB]
    exact adF_t _ _ _
/- operations of two, of one, of no numbers -/
theorem rnS (l : List Str) : (rnB l false = false ∧ 0 < l.length ∧ numOkW (strAt l 0) = true ∧ wordW l false = l.drop 1 ∧ rnV l false = numVW (strAt l 0)) ∨ (rnB l false = true ∧ (¬ 0 < l.length ∨ numOkW (strAt l 0) = false)) := by
  by_cases h : 0 < l.length
  · cases hn : numOkW (strAt l 0) with
    | true => left; exact ⟨by rw [rB h, hn]; rfl, h, rfl, wW h, rV h hn⟩
    | false => right; exact ⟨by rw [rB h, hn]; rfl, Or.inr rfl⟩
  · right; exact ⟨rB0 h false, Or.inl h⟩
theorem numsAll (l : List Str) (n : Nat) (hl : l.length = n) (h0 : 0 < n) : ((numsL l).length = n ↔ ∀ k, k < n → numOkW (strAt l k) = true) := by
  have e : mid l 0 (0 + n) = l := by unfold mid; rw [List.take_of_length_le (by omega)]; rfl
  have a := numsShort (ws := l) (a := 0) (n := n) (by omega) h0
  rw [e] at a
  constructor
  · intro h k hk
    cases hb : numOkW (strAt l k) with
    | true => rfl
    | false => have := a.2 ⟨k, hk, by rw [Nat.zero_add]; exact hb⟩; omega
  · intro h
    have := (nums_take (ws := l) (a := 0) (n := n) (by omega) (fun k hk => by rw [Nat.zero_add]; exact h k hk)).1
    unfold mid at e
    rwa [e] at this
theorem numsVal (l : List Str) (n : Nat) (hl : l.length = n) (h0 : 0 < n) (h : (numsL l).length = n) (k : Nat) (hk : k < n) : intAt (numsL l) k = numVW (strAt l k) := by
  have ho := (numsAll l n hl h0).1 h
  have e : mid l 0 (0 + n) = l := by unfold mid; rw [List.take_of_length_le (by omega)]; rfl
  have := (nums_take (ws := l) (a := 0) (n := n) (by omega) (fun k hk => by rw [Nat.zero_add]; exact ho k hk)).2 k hk
  unfold mid at e
  rw [e, Nat.zero_add] at this
  exact this
/-- What the reader makes of two numbers. -/
theorem sz2 (k : Int) (l : List Str) :
    (rnB (wordW l false) (rnB l false) = true ∧ (rfSized k 2 l).2 = false) ∨
    (rnB (wordW l false) (rnB l false) = false ∧ 0 < (wordW (wordW l false) (rnB l false)).length ∧ (rfSized k 2 l).2 = false) ∨
    (rnB (wordW l false) (rnB l false) = false ∧ (wordW (wordW l false) (rnB l false)).length = 0 ∧ rfSized k 2 l = ((k, rnV l false, rnV (wordW l false) (rnB l false), [], [], []), true)) := by
  rcases rnS l with ⟨b1, h1, o1, w1, v1⟩ | ⟨b1, h1⟩
  · rw [b1, w1]
    rcases rnS (l.drop 1) with ⟨b2, h2, o2, w2, v2⟩ | ⟨b2, h2⟩
    · rw [b2, w2, v1, v2]
      rw [strAt_drop] at o2 ⊢
      simp at h2
      by_cases hl : l.length = 2
      · right; right
        refine ⟨rfl, by simp; omega, ?_⟩
        have hn : (numsL l).length = 2 := (numsAll l 2 hl (by omega)).2 (fun k hk => by
          by_cases e : k = 0
          · subst e; exact o1
          · obtain rfl : k = 1 := by omega
            exact o2)
        unfold rfSized
        rw [if_pos ⟨hl, hn⟩, numsVal l 2 hl (by omega) hn 0 (by omega), numsVal l 2 hl (by omega) hn 1 (by omega)]
        rfl
      · right; left
        refine ⟨rfl, by simp; omega, ?_⟩
        unfold rfSized
        rw [if_neg (fun hh => hl hh.1)]
    · left
      refine ⟨b2, ?_⟩
      unfold rfSized
      by_cases hc : l.length = 2 ∧ (numsL l).length = 2
      · have := (numsAll l 2 hc.1 (by omega)).1 hc.2 1 (by omega)
        rw [strAt_drop] at h2
        rcases h2 with h2 | h2
        · simp at h2; omega
        · rw [this] at h2; cases h2
      · rw [if_neg hc]
  · rw [b1]
    left
    refine ⟨rBt _, ?_⟩
    unfold rfSized
    by_cases hc : l.length = 2 ∧ (numsL l).length = 2
    · have := (numsAll l 2 hc.1 (by omega)).1 hc.2 0 (by omega)
      rcases h1 with h1 | h1
      · omega
      · rw [this] at h1; cases h1
    · rw [if_neg hc]
theorem sz1 (k : Int) (l : List Str) :
    (rnB l false = true ∧ (rfSized k 1 l).2 = false) ∨
    (rnB l false = false ∧ 0 < (wordW l false).length ∧ (rfSized k 1 l).2 = false) ∨
    (rnB l false = false ∧ (wordW l false).length = 0 ∧ rfSized k 1 l = ((k, rnV l false, 0, [], [], []), true)) := by
  rcases rnS l with ⟨b1, h1, o1, w1, v1⟩ | ⟨b1, h1⟩
  · rw [b1, w1, v1]
    by_cases hl : l.length = 1
    · right; right
      refine ⟨rfl, by simp; omega, ?_⟩
      have hn : (numsL l).length = 1 := (numsAll l 1 hl (by omega)).2 (fun k hk => by
        obtain rfl : k = 0 := by omega
        exact o1)
      unfold rfSized
      rw [if_pos ⟨hl, hn⟩, numsVal l 1 hl (by omega) hn 0 (by omega)]
      rfl
    · right; left
      refine ⟨rfl, by simp; omega, ?_⟩
      unfold rfSized
      rw [if_neg (fun hh => hl hh.1)]
  · left
    refine ⟨b1, ?_⟩
    unfold rfSized
    by_cases hc : l.length = 1 ∧ (numsL l).length = 1
    · have := (numsAll l 1 hc.1 (by omega)).1 hc.2 0 (by omega)
      rcases h1 with h1 | h1
      · omega
      · rw [this] at h1; cases h1
    · rw [if_neg hc]
theorem sz0 (k : Int) (l : List Str) :
    (0 < l.length ∧ (rfSized k 0 l).2 = false) ∨ (l.length = 0 ∧ rfSized k 0 l = ((k, 0, 0, [], [], []), true)) := by
  by_cases hl : l.length = 0
  · right
    refine ⟨hl, ?_⟩
    have : l = [] := List.eq_nil_of_length_eq_zero hl
    subst this
    rfl
  · left
    refine ⟨by omega, ?_⟩
    unfold rfSized
    rw [if_neg (fun hh => hl hh.1)]
end Go.Proofs.YtgiahagbmgnmkaaDoor.Script
/- Script: what Parse answers of a line, as one. -/
set_option linter.unusedVariables false
set_option linter.unusedSimpArgs false
namespace Go.Proofs.YtgiahagbmgnmkaaDoor.Script
open Go Pv G
abbrev okO (o : Opn) : V := okR o.1 o.2.1 o.2.2.1 o.2.2.2.1 o.2.2.2.2.1 o.2.2.2.2.2
def Both (line : Str) (x : Opn × Bool) : Prop := (x.2 = true → Ans X0 FPs [.d (.str line)] (okO x.1)) ∧ (x.2 = false → Ans X0 FPs [.d (.str line)] errR)
theorem bothN {line : Str} {x : Opn × Bool} (h : x.2 = false) (ha : Ans X0 FPs [.d (.str line)] errR) : Both line x := ⟨fun h2 => (by rw [h] at h2; cases h2), fun _ => ha⟩
theorem bothY {line : Str} {o : Opn} (ha : Ans X0 FPs [.d (.str line)] (okO o)) : Both line (o, true) := ⟨fun _ => ha, fun h => (by cases h)⟩
theorem psBoth (line : Str) (hl : line.length ≤ 1000000) : Both line (rfP line) := by
  unfold rfP
  cases hn : hasC 10 line with
  | true => rw [if_pos rfl]; exact bothN rfl (psNl line hn)
  | false =>
    rw [if_neg (by simp)]
    have h0 : 0 < (pieces 32 line).length := by rw [pieces_length]; omega
    have hNo := pieces_nonl hn
    have sm0 : Sm (pieces 32 line) := fun p hp => by have := pieces_small 32 line p hp; omega
    have ln0 : (pieces 32 line).length ≤ line.length + 1 := by rw [pieces_length]; have := List.count_le_length (a := (32 : UInt8)) (l := line); omega
    have e1 := wV h0
    have e2 := wW h0
    have e3 := wB h0
    generalize hws : pieces 32 line = ws at *
    have s1 : Sm (ws.drop 1) := smDrop 1 sm0
    have hl1 : (ws.drop 1).length ≤ 1000000 := by simp; omega
    have hN1 := noDrop 1 hNo
    have s2 : ∀ l : List Str, Sm l → Sm (wordW l false) := fun l h => smWord h
    have E1 : ∀ v, strAt ws 0 = v → wordV (pieces 32 line) false = v := fun v h => by rw [hws, e1, h]
    have E2 : wordW (pieces 32 line) false = ws.drop 1 := by rw [hws, e2]
    have E3 : wordB (pieces 32 line) false = false := by rw [hws, e3]
    by_cases q0 : strAt ws 0 = [101, 100, 105, 116]
    · rw [if_pos q0]
      cases hb : (rfEdits (ws.drop 1)).2 with
      | false => exact bothN hb (psEd1 line _ hl hn (E1 _ q0) E2 E3 s1 hl1 (rfEd_no hN1 hb))
      | true =>
        obtain ⟨a, b, c⟩ := rfEd_yes hN1 hb
        rw [show rfEdits (ws.drop 1) = ((rfEdits (ws.drop 1)).1, (rfEdits (ws.drop 1)).2) from rfl, hb, c]
        exact bothY (psEd2 line _ hl hn (E1 _ q0) E2 E3 s1 hl1 a b)
    rw [if_neg q0]
    by_cases q1 : strAt ws 0 = [102, 111, 108, 100]
    · rw [if_pos q1]
      rcases sz2 2 (ws.drop 1) with ⟨a, b⟩ | ⟨a, b, c⟩ | ⟨a, b, c⟩
      · exact bothN b (psFold1 line _ hl hn (E1 _ q1) E2 E3 _ _ _ _ _ _ s1 (s2 _ s1) rfl rfl rfl rfl rfl rfl a)
      · exact bothN c (psFold2 line _ hl hn (E1 _ q1) E2 E3 _ _ _ _ _ _ s1 (s2 _ s1) rfl rfl rfl rfl rfl rfl a b)
      · rw [c]; exact bothY (psFold3 line _ hl hn (E1 _ q1) E2 E3 _ _ _ _ _ _ s1 (s2 _ s1) rfl rfl rfl rfl rfl rfl a b)
    rw [if_neg q1]
    by_cases q2 : strAt ws 0 = [117, 110, 102, 111, 108, 100]
    · rw [if_pos q2]
      rcases sz2 3 (ws.drop 1) with ⟨a, b⟩ | ⟨a, b, c⟩ | ⟨a, b, c⟩
      · exact bothN b (psUnfold1 line _ hl hn (E1 _ q2) E2 E3 _ _ _ _ _ _ s1 (s2 _ s1) rfl rfl rfl rfl rfl rfl a)
      · exact bothN c (psUnfold2 line _ hl hn (E1 _ q2) E2 E3 _ _ _ _ _ _ s1 (s2 _ s1) rfl rfl rfl rfl rfl rfl a b)
      · rw [c]; exact bothY (psUnfold3 line _ hl hn (E1 _ q2) E2 E3 _ _ _ _ _ _ s1 (s2 _ s1) rfl rfl rfl rfl rfl rfl a b)
    rw [if_neg q2]
    by_cases q3 : strAt ws 0 = [105, 110, 108, 97, 121]
    · rw [if_pos q3]
      cases hb : (rfInlays (ws.drop 1)).2 with
      | false => exact bothN hb (psInlay1 line _ hl hn (E1 _ q3) E2 E3 _ _ _ _ s1 hl1 rfl rfl rfl rfl (rfIn_no hN1 hb))
      | true =>
        obtain ⟨a, b, c⟩ := rfIn_yes hN1 hb
        rw [show rfInlays (ws.drop 1) = ((rfInlays (ws.drop 1)).1, (rfInlays (ws.drop 1)).2) from rfl, hb, c]
        exact bothY (psInlay2 line _ hl hn (E1 _ q3) E2 E3 _ _ _ _ s1 hl1 rfl rfl rfl rfl a b)
    rw [if_neg q3]
    by_cases q4 : strAt ws 0 = [119, 105, 100, 116, 104]
    · rw [if_pos q4]
      rcases sz1 5 (ws.drop 1) with ⟨a, b⟩ | ⟨a, b, c⟩ | ⟨a, b, c⟩
      · exact bothN b (psWidth1 line _ hl hn (E1 _ q4) E2 E3 _ _ _ s1 rfl rfl rfl a)
      · exact bothN c (psWidth2 line _ hl hn (E1 _ q4) E2 E3 _ _ _ s1 rfl rfl rfl a b)
      · rw [c]; exact bothY (psWidth3 line _ hl hn (E1 _ q4) E2 E3 _ _ _ s1 rfl rfl rfl a b)
    rw [if_neg q4]
    by_cases q5 : strAt ws 0 = [116, 97, 98]
    · rw [if_pos q5]
      rcases sz1 6 (ws.drop 1) with ⟨a, b⟩ | ⟨a, b, c⟩ | ⟨a, b, c⟩
      · exact bothN b (psTab1 line _ hl hn (E1 _ q5) E2 E3 _ _ _ s1 rfl rfl rfl a)
      · exact bothN c (psTab2 line _ hl hn (E1 _ q5) E2 E3 _ _ _ s1 rfl rfl rfl a b)
      · rw [c]; exact bothY (psTab3 line _ hl hn (E1 _ q5) E2 E3 _ _ _ s1 rfl rfl rfl a b)
    rw [if_neg q5]
    by_cases q6 : strAt ws 0 = [117, 110, 100, 111]
    · rw [if_pos q6]
      rcases sz0 7 (ws.drop 1) with ⟨a, b⟩ | ⟨a, c⟩
      · exact bothN b (psUndo2 line _ hl hn (E1 _ q6) E2 E3 a)
      · rw [c]; exact bothY (psUndo3 line _ hl hn (E1 _ q6) E2 E3 a)
    rw [if_neg q6]
    by_cases q7 : strAt ws 0 = [114, 101, 100, 111]
    · rw [if_pos q7]
      rcases sz0 8 (ws.drop 1) with ⟨a, b⟩ | ⟨a, c⟩
      · exact bothN b (psRedo2 line _ hl hn (E1 _ q7) E2 E3 a)
      · rw [c]; exact bothY (psRedo3 line _ hl hn (E1 _ q7) E2 E3 a)
    rw [if_neg q7]
    have bq : ∀ {v : Str}, ¬ strAt ws 0 = v → (strAt ws 0 == v) = false := fun h => by simpa using h
    exact bothN rfl (psNo line _ _ hl hn (E1 _ rfl) E2 E3 (bq q0) (bq q1) (bq q2) (bq q3) (bq q4) (bq q5) (bq q6) (bq q7))
def psOk_T : Prop := ∀ (line : Str) (k a b : Int) (es : List Edit) (rs : List Int) (ns : List Inl) (hl : line.length ≤ 1000000) (e : rfP line = ((k, a, b, es, rs, ns), true)), Ans X0 FPs [.d (.str line)] (okR k a b es rs ns)
theorem psOk : psOk_T := fun line k a b es rs ns hl e => by
  have := (psBoth line hl).1 (by rw [e])
  rw [e] at this
  exact this
def psErr_T : Prop := ∀ (line : Str) (o : Opn) (hl : line.length ≤ 1000000) (e : rfP line = (o, false)), Ans X0 FPs [.d (.str line)] errR
theorem psErr : psErr_T := fun line o hl e => (psBoth line hl).2 (by rw [e])
end Go.Proofs.YtgiahagbmgnmkaaDoor.Script
/- Script: the reference's Number, Told, Words: rounds, statements. -/
set_option linter.unusedVariables false
set_option linter.unusedSimpArgs false
namespace Go.Proofs.YtgiahagbmgnmkaaDoor.Script
open Go Pv G
abbrev valD (n : Int) (s : Str) (b : Bool) : D := .agg [.int .i64 n, .str s, .bool b]
abbrev zV : Ob := .cells [.d (.int .i64 0), .d (.str []), .d (.bool false)]
abbrev FQ : Nat := 54
abbrev FTd : Nat := 44
abbrev FWd : Nat := 27
abbrev FLn : Nat := 18
/- Number -/
abbrev stQ (w : Str) (sg n : Int) (i : Nat) : St := ⟨[(0, .d (.str w)), (2, .obj 0 0), (3, .d (.int .i64 sg)), (4, .d (.int .i64 n)), (5, .d (.int .i64 i))], [zV], []⟩
abbrev stQx (w : Str) (sg n : Int) (i : Nat) : St := ⟨[(0, .d (.str w)), (2, .obj 0 0), (3, .d (.int .i64 sg)), (4, .d (.int .i64 n)), (5, .d (.int .i64 i)), (28, .d (.bool false))], [zV], []⟩
abbrev stQr : St := ⟨[(2, .obj 0 0)], [zV], []⟩
def rq1_T : Prop := ∀ (w : Str) (sg n : Int) (i : Nat) (hw : w.length ≤ 12) (hi : i < w.length) (h0 : 0 ≤ n) (hn : n < 100000000000000) (h1 : 48 ≤ byteAt w i) (h2 : byteAt w i ≤ 57),
  RdC X0 0 (ntOf X0 FQ) (lpKeep X0 FQ 0) (lpBody X0 FQ 0) 1 (stQ w sg n i) (stQ w sg (10 * n + byteAt w i - 48) (i + 1))
def rq2_T : Prop := ∀ (w : Str) (sg n : Int) (i : Nat) (hw : w.length ≤ 12) (hi : i < w.length) (h1 : byteAt w i < 48), Rd X0 0 (ntOf X0 FQ) (lpBody X0 FQ 0) (stQ w sg n i) (.ret, stQr)
def rq3_T : Prop := ∀ (w : Str) (sg n : Int) (i : Nat) (hw : w.length ≤ 12) (hi : i < w.length) (h1 : 57 < byteAt w i), Rd X0 0 (ntOf X0 FQ) (lpBody X0 FQ 0) (stQ w sg n i) (.ret, stQr)
def rq4_T : Prop := ∀ (w : Str) (sg n : Int) (i : Nat) (hw : w.length ≤ 12) (hi : w.length ≤ i) (h2 : i ≤ 1000000), Rd X0 0 (ntOf X0 FQ) (lpBody X0 FQ 0) (stQ w sg n i) (.exit 0, stQx w sg n i)
/- Told -/
abbrev stD (w s : Str) (i : Nat) : St := ⟨[(0, .d (.str w)), (2, .obj 0 0), (3, .d (.str s)), (4, .d (.int .i64 i))], [zV], []⟩
abbrev stDx (w s : Str) (i : Nat) : St := ⟨[(0, .d (.str w)), (2, .obj 0 0), (3, .d (.str s)), (4, .d (.int .i64 i)), (11, .d (.bool false))], [zV], []⟩
def rd1_T : Prop := ∀ (w s : Str) (i : Nat) (hw : w.length ≤ 1000000) (ho : s.length ≤ 1000000) (hi : i < w.length) (h1 : byteAt w i ≠ 9) (h2 : byteAt w i ≠ 10) (h3 : byteAt w i ≠ 92),
  RdC X0 0 (ntOf X0 FTd) (lpKeep X0 FTd 0) (lpBody X0 FTd 0) 1 (stD w s i) (stD w (s ++ toBs [byteAt w i]) (i + 1))
def rd2_T : Prop := ∀ (w s : Str) (i : Nat) (hw : w.length ≤ 1000000) (ho : s.length ≤ 1000000) (hi : i < w.length) (h1 : byteAt w i = 9), Rd X0 0 (ntOf X0 FTd) (lpBody X0 FTd 0) (stD w s i) (.ret, stQr)
def rd3_T : Prop := ∀ (w s : Str) (i : Nat) (hw : w.length ≤ 1000000) (ho : s.length ≤ 1000000) (hi : i < w.length) (h1 : byteAt w i = 10), Rd X0 0 (ntOf X0 FTd) (lpBody X0 FTd 0) (stD w s i) (.ret, stQr)
def rd4_T : Prop := ∀ (w s : Str) (i : Nat) (hw : w.length ≤ 1000000) (ho : s.length ≤ 1000000) (hi : i + 1 = w.length) (h1 : byteAt w i = 92), Rd X0 0 (ntOf X0 FTd) (lpBody X0 FTd 0) (stD w s i) (.ret, stQr)
def rd5_T : Prop := ∀ (w s : Str) (i : Nat) (hw : w.length ≤ 1000000) (ho : s.length ≤ 1000000) (hi : i + 1 < w.length) (h1 : byteAt w i = 92) (h2 : byteAt w (i + 1) = 115),
  RdC X0 0 (ntOf X0 FTd) (lpKeep X0 FTd 0) (lpBody X0 FTd 0) 1 (stD w s i) (stD w (s ++ [32]) (i + 2))
def rd6_T : Prop := ∀ (w s : Str) (i : Nat) (hw : w.length ≤ 1000000) (ho : s.length ≤ 1000000) (hi : i + 1 < w.length) (h1 : byteAt w i = 92) (h2 : byteAt w (i + 1) = 110),
  RdC X0 0 (ntOf X0 FTd) (lpKeep X0 FTd 0) (lpBody X0 FTd 0) 1 (stD w s i) (stD w (s ++ [10]) (i + 2))
def rd7_T : Prop := ∀ (w s : Str) (i : Nat) (hw : w.length ≤ 1000000) (ho : s.length ≤ 1000000) (hi : i + 1 < w.length) (h1 : byteAt w i = 92) (h2 : byteAt w (i + 1) = 116),
  RdC X0 0 (ntOf X0 FTd) (lpKeep X0 FTd 0) (lpBody X0 FTd 0) 1 (stD w s i) (stD w (s ++ [9]) (i + 2))
def rd8_T : Prop := ∀ (w s : Str) (i : Nat) (hw : w.length ≤ 1000000) (ho : s.length ≤ 1000000) (hi : i + 1 < w.length) (h1 : byteAt w i = 92) (h2 : byteAt w (i + 1) = 92),
  RdC X0 0 (ntOf X0 FTd) (lpKeep X0 FTd 0) (lpBody X0 FTd 0) 1 (stD w s i) (stD w (s ++ [92]) (i + 2))
def rd9_T : Prop := ∀ (w s : Str) (i : Nat) (hw : w.length ≤ 1000000) (ho : s.length ≤ 1000000) (hi : i + 1 < w.length) (h1 : byteAt w i = 92) (h2 : byteAt w (i + 1) ≠ 115) (h3 : byteAt w (i + 1) ≠ 110) (h4 : byteAt w (i + 1) ≠ 116) (h5 : byteAt w (i + 1) ≠ 92),
  Rd X0 0 (ntOf X0 FTd) (lpBody X0 FTd 0) (stD w s i) (.ret, stQr)
def rd0_T : Prop := ∀ (w s : Str) (i : Nat) (hi : w.length ≤ i) (h2 : i ≤ 1000000), Rd X0 0 (ntOf X0 FTd) (lpBody X0 FTd 0) (stD w s i) (.exit 0, stDx w s i)
/- Words, Lines -/
abbrev strT : Ty := .str
theorem strsFlat (l : List Str) : strT.slD l = strsD l := by
  show D.sl (l.flatMap fun s => [D.str s]) l.length = _
  congr 1
  induction l with
  | nil => rfl
  | cons a l ih => simp only [List.flatMap_cons, List.map_cons, ih]; rfl
def appendStr_T : Prop := ∀ (l : List Str) (x : Str) (hl : l.length ≤ 1000000), appendV X0 41 41 (strT.tailV 9 l) (.full [.str x] 1) = some (strT.tailV 9 (l ++ [x]))
theorem appendStr : appendStr_T := fun l x hl => appendOne (e := strT) (E := 9) (i := (X0.P.info? 9).getD default) (by kernel_rfl) (by kernel_rfl) (by kernel_rfl) (by decide +kernel) (by decide +kernel) (by kernel_rfl) x rfl (by omega)
abbrev stX (s : Str) (out : List Str) (w : Str) (i : Nat) : St := ⟨[(0, .d (.str s)), (3, strT.tailV 9 out), (4, .d (.str w)), (5, .d (.int .i64 i))], [], []⟩
abbrev stXx (s : Str) (out : List Str) (w : Str) (i : Nat) : St := ⟨[(0, .d (.str s)), (3, strT.tailV 9 out), (4, .d (.str w)), (5, .d (.int .i64 i)), (9, .d (.bool false))], [], []⟩
def rw1_T : Prop := ∀ (s : Str) (out : List Str) (w : Str) (i : Nat) (hs : s.length ≤ 1000000) (ho : out.length ≤ 1000000) (hw : w.length ≤ 1000000) (hi : i < s.length) (h : byteAt s i = 32),
  RdC X0 0 (ntOf X0 FWd) (lpKeep X0 FWd 0) (lpBody X0 FWd 0) 0 (stX s out w i) (stX s (out ++ [w]) [] (i + 1))
def rw2_T : Prop := ∀ (s : Str) (out : List Str) (w : Str) (i : Nat) (hs : s.length ≤ 1000000) (ho : out.length ≤ 1000000) (hw : w.length ≤ 1000000) (hi : i < s.length) (h : byteAt s i ≠ 32),
  RdC X0 0 (ntOf X0 FWd) (lpKeep X0 FWd 0) (lpBody X0 FWd 0) 0 (stX s out w i) (stX s out (w ++ toBs [byteAt s i]) (i + 1))
def rw3_T : Prop := ∀ (s : Str) (out : List Str) (w : Str) (i : Nat) (hs : s.length ≤ i) (h2 : i ≤ 1000000), Rd X0 0 (ntOf X0 FWd) (lpBody X0 FWd 0) (stX s out w i) (.exit 0, stXx s out w i)
def rl1_T : Prop := ∀ (s : Str) (out : List Str) (w : Str) (i : Nat) (hs : s.length ≤ 1000000) (ho : out.length ≤ 1000000) (hw : w.length ≤ 1000000) (hi : i < s.length) (h : byteAt s i = 10),
  RdC X0 0 (ntOf X0 FLn) (lpKeep X0 FLn 0) (lpBody X0 FLn 0) 0 (stX s out w i) (stX s (out ++ [w]) [] (i + 1))
def rl2_T : Prop := ∀ (s : Str) (out : List Str) (w : Str) (i : Nat) (hs : s.length ≤ 1000000) (ho : out.length ≤ 1000000) (hw : w.length ≤ 1000000) (hi : i < s.length) (h : byteAt s i ≠ 10),
  RdC X0 0 (ntOf X0 FLn) (lpKeep X0 FLn 0) (lpBody X0 FLn 0) 0 (stX s out w i) (stX s out (w ++ toBs [byteAt s i]) (i + 1))
def rl3_T : Prop := ∀ (s : Str) (out : List Str) (w : Str) (i : Nat) (hs : s.length ≤ i) (h2 : i ≤ 1000000), Rd X0 0 (ntOf X0 FLn) (lpBody X0 FLn 0) (stX s out w i) (.exit 0, stXx s out w i)
end Go.Proofs.YtgiahagbmgnmkaaDoor.Script
/- Script: paths, printed by a program of mine. -/
set_option maxRecDepth 100000
set_option linter.unusedSimpArgs false
set_option linter.unusedVariables false
namespace Go.Proofs.YtgiahagbmgnmkaaDoor.Script
open Go Pv G
set_option maxHeartbeats 4000000 in
theorem rq1 : rq1_T := by
  intro w sg n i hw hi h0 hn h1 h2
  have h0 : (decide ((↑i : Int) < (↑(ByteArray.size { data := (List.toArray w) }) : Int))) = true := by (first | assumption | (((try simp only [SA] at *); (try simp (disch := omega) only [SB, reduceCtorEq] at *)) <;> first | omega | assumption | (refine ⟨?_, ?_⟩ <;> assumption) | (refine ⟨?_, ?_, ?_⟩ <;> assumption) | (intros; assumption) | (right; right; assumption) | (right; left; assumption) | (left; assumption)))
  have h1 : (decide ((byteAt w (Int.toNat (↑i : Int))) < (48 : Int))) = false := by (first | assumption | (((try simp only [SA] at *); (try simp (disch := omega) only [SB, reduceCtorEq] at *)) <;> first | omega | assumption | (refine ⟨?_, ?_⟩ <;> assumption) | (refine ⟨?_, ?_, ?_⟩ <;> assumption) | (intros; assumption) | (right; right; assumption) | (right; left; assumption) | (left; assumption)))
  have h2 : (decide ((byteAt w (Int.toNat (↑i : Int))) > (57 : Int))) = false := by (first | assumption | (((try simp only [SA] at *); (try simp (disch := omega) only [SB, reduceCtorEq] at *)) <;> first | omega | assumption | (refine ⟨?_, ?_⟩ <;> assumption) | (refine ⟨?_, ?_, ?_⟩ <;> assumption) | (intros; assumption) | (right; right; assumption) | (right; left; assumption) | (left; assumption)))
  exact (pC (st' := { s := [((nat_lit 0), (V.d (D.str w))), ((nat_lit 2), (V.obj (nat_lit 0) (nat_lit 0))), ((nat_lit 3), (V.d (D.int IntKind.i64 sg))), ((nat_lit 4), (V.d (D.int IntKind.i64 (IntKind.wrap IntKind.i64 ((IntKind.wrap IntKind.i64 ((IntKind.wrap IntKind.i64 ((10 : Int) * n)) + (IntKind.wrap IntKind.i64 (byteAt w (Int.toNat (↑i : Int)))))) - (48 : Int)))))), ((nat_lit 5), (V.d (D.int IntKind.i64 (IntKind.wrap IntKind.i64 ((↑i : Int) + (1 : Int))))))], h := [(Ob.cells [(V.d (D.int IntKind.i64 (0 : Int))), (V.d (D.str [])), (V.d (D.bool false))])], og := [] }) 12 [(2, bt), (3, .v (V.d (D.int IntKind.u8 (byteAt w (Int.toNat (↑i : Int)))))), (5, bf), (6, bf), (7, bf), (8, .v (V.d (D.int IntKind.u8 (byteAt w (Int.toNat (↑i : Int)))))), (9, bf), (11, bf), (12, bf), (14, .v (V.d (D.int IntKind.u8 (byteAt w (Int.toNat (↑i : Int))))))] (cP (@indexStr (w) ((↑i : Int)) (by (first | assumption | (((try simp only [SA] at *); (try simp (disch := omega) only [SB, reduceCtorEq] at *)) <;> first | omega | assumption | (refine ⟨?_, ?_⟩ <;> assumption) | (refine ⟨?_, ?_, ?_⟩ <;> assumption) | (intros; assumption) | (right; right; assumption) | (right; left; assumption) | (left; assumption)))) (by (first | assumption | (((try simp only [SA] at *); (try simp (disch := omega) only [SB, reduceCtorEq] at *)) <;> first | omega | assumption | (refine ⟨?_, ?_⟩ <;> assumption) | (refine ⟨?_, ?_, ?_⟩ <;> assumption) | (intros; assumption) | (right; right; assumption) | (right; left; assumption) | (left; assumption))))) (cP h2 (cP h1 (cP h1 (cP (@indexStr (w) ((↑i : Int)) (by (first | assumption | (((try simp only [SA] at *); (try simp (disch := omega) only [SB, reduceCtorEq] at *)) <;> first | omega | assumption | (refine ⟨?_, ?_⟩ <;> assumption) | (refine ⟨?_, ?_, ?_⟩ <;> assumption) | (intros; assumption) | (right; right; assumption) | (right; left; assumption) | (left; assumption)))) (by (first | assumption | (((try simp only [SA] at *); (try simp (disch := omega) only [SB, reduceCtorEq] at *)) <;> first | omega | assumption | (refine ⟨?_, ?_⟩ <;> assumption) | (refine ⟨?_, ?_, ?_⟩ <;> assumption) | (intros; assumption) | (right; right; assumption) | (right; left; assumption) | (left; assumption))))) (cP h1 (cP h1 (cP h1 (cP (@indexStr (w) ((↑i : Int)) (by (first | assumption | (((try simp only [SA] at *); (try simp (disch := omega) only [SB, reduceCtorEq] at *)) <;> first | omega | assumption | (refine ⟨?_, ?_⟩ <;> assumption) | (refine ⟨?_, ?_, ?_⟩ <;> assumption) | (intros; assumption) | (right; right; assumption) | (right; left; assumption) | (left; assumption)))) (by (first | assumption | (((try simp only [SA] at *); (try simp (disch := omega) only [SB, reduceCtorEq] at *)) <;> first | omega | assumption | (refine ⟨?_, ?_⟩ <;> assumption) | (refine ⟨?_, ?_, ?_⟩ <;> assumption) | (intros; assumption) | (right; right; assumption) | (right; left; assumption) | (left; assumption))))) (cP h0 nilE)))))))))) (by kernel_rfl)).to (by ((try simp (disch := omega) only [wrapId, sizeOne, sizeStr, List.length_cons, List.length_nil, wrapU8, toNatAdd, toNatSucc] at *) <;> (try simp only [Int.toNat_natCast, beq_iff_eq, beq_eq_false_iff_ne, bne_iff_ne, bne_eq_false_iff_eq, ne_eq, Int.natCast_eq_zero, Int.natCast_inj] at *) <;> first | (simp (disch := omega) [Ty.enc, wrapId, toNatPred, toNatAdd, toNatSucc, sizeOne, sizeStr, List.length_cons, List.length_nil, wrapU8, ltF, ltT, Ty.slD, *]; done) | (subst_vars; simp (disch := omega) [Ty.enc, wrapId, toNatPred, toNatAdd, toNatSucc, sizeOne, sizeStr, List.length_cons, List.length_nil, wrapU8, ltF, ltT, Ty.slD, *]; done)))
set_option maxHeartbeats 4000000 in
theorem rq2 : rq2_T := by
  intro w sg n i hw hi h1
  have h0 : (decide ((↑i : Int) < (↑(ByteArray.size { data := (List.toArray w) }) : Int))) = true := by (first | assumption | (((try simp only [SA] at *); (try simp (disch := omega) only [SB, reduceCtorEq] at *)) <;> first | omega | assumption | (refine ⟨?_, ?_⟩ <;> assumption) | (refine ⟨?_, ?_, ?_⟩ <;> assumption) | (intros; assumption) | (right; right; assumption) | (right; left; assumption) | (left; assumption)))
  have h1 : (decide ((byteAt w (Int.toNat (↑i : Int))) < (48 : Int))) = true := by (first | assumption | (((try simp only [SA] at *); (try simp (disch := omega) only [SB, reduceCtorEq] at *)) <;> first | omega | assumption | (refine ⟨?_, ?_⟩ <;> assumption) | (refine ⟨?_, ?_, ?_⟩ <;> assumption) | (intros; assumption) | (right; right; assumption) | (right; left; assumption) | (left; assumption)))
  exact pR 12 [(2, bt), (3, .v (V.d (D.int IntKind.u8 (byteAt w (Int.toNat (↑i : Int)))))), (5, bt), (6, bt), (7, bt), (8, bt), (9, bt)] (cP h1 (cP h1 (cP h1 (cP h1 (cP h1 (cP (@indexStr (w) ((↑i : Int)) (by (first | assumption | (((try simp only [SA] at *); (try simp (disch := omega) only [SB, reduceCtorEq] at *)) <;> first | omega | assumption | (refine ⟨?_, ?_⟩ <;> assumption) | (refine ⟨?_, ?_, ?_⟩ <;> assumption) | (intros; assumption) | (right; right; assumption) | (right; left; assumption) | (left; assumption)))) (by (first | assumption | (((try simp only [SA] at *); (try simp (disch := omega) only [SB, reduceCtorEq] at *)) <;> first | omega | assumption | (refine ⟨?_, ?_⟩ <;> assumption) | (refine ⟨?_, ?_, ?_⟩ <;> assumption) | (intros; assumption) | (right; right; assumption) | (right; left; assumption) | (left; assumption))))) (cP h0 nilE))))))) (by kernel_rfl)
set_option maxHeartbeats 4000000 in
theorem rq3 : rq3_T := by
  intro w sg n i hw hi h1
  have h0 : (decide ((↑i : Int) < (↑(ByteArray.size { data := (List.toArray w) }) : Int))) = true := by (first | assumption | (((try simp only [SA] at *); (try simp (disch := omega) only [SB, reduceCtorEq] at *)) <;> first | omega | assumption | (refine ⟨?_, ?_⟩ <;> assumption) | (refine ⟨?_, ?_, ?_⟩ <;> assumption) | (intros; assumption) | (right; right; assumption) | (right; left; assumption) | (left; assumption)))
  have h1 : (decide ((byteAt w (Int.toNat (↑i : Int))) < (48 : Int))) = false := by (first | assumption | (((try simp only [SA] at *); (try simp (disch := omega) only [SB, reduceCtorEq] at *)) <;> first | omega | assumption | (refine ⟨?_, ?_⟩ <;> assumption) | (refine ⟨?_, ?_, ?_⟩ <;> assumption) | (intros; assumption) | (right; right; assumption) | (right; left; assumption) | (left; assumption)))
  have h2 : (decide ((byteAt w (Int.toNat (↑i : Int))) > (57 : Int))) = true := by (first | assumption | (((try simp only [SA] at *); (try simp (disch := omega) only [SB, reduceCtorEq] at *)) <;> first | omega | assumption | (refine ⟨?_, ?_⟩ <;> assumption) | (refine ⟨?_, ?_, ?_⟩ <;> assumption) | (intros; assumption) | (right; right; assumption) | (right; left; assumption) | (left; assumption)))
  exact pR 12 [(2, bt), (3, .v (V.d (D.int IntKind.u8 (byteAt w (Int.toNat (↑i : Int)))))), (5, bf), (6, bf), (7, bf), (8, .v (V.d (D.int IntKind.u8 (byteAt w (Int.toNat (↑i : Int)))))), (9, bf), (11, bf), (12, bt)] (cP h2 (cP h1 (cP h1 (cP (@indexStr (w) ((↑i : Int)) (by (first | assumption | (((try simp only [SA] at *); (try simp (disch := omega) only [SB, reduceCtorEq] at *)) <;> first | omega | assumption | (refine ⟨?_, ?_⟩ <;> assumption) | (refine ⟨?_, ?_, ?_⟩ <;> assumption) | (intros; assumption) | (right; right; assumption) | (right; left; assumption) | (left; assumption)))) (by (first | assumption | (((try simp only [SA] at *); (try simp (disch := omega) only [SB, reduceCtorEq] at *)) <;> first | omega | assumption | (refine ⟨?_, ?_⟩ <;> assumption) | (refine ⟨?_, ?_, ?_⟩ <;> assumption) | (intros; assumption) | (right; right; assumption) | (right; left; assumption) | (left; assumption))))) (cP h1 (cP h1 (cP h1 (cP (@indexStr (w) ((↑i : Int)) (by (first | assumption | (((try simp only [SA] at *); (try simp (disch := omega) only [SB, reduceCtorEq] at *)) <;> first | omega | assumption | (refine ⟨?_, ?_⟩ <;> assumption) | (refine ⟨?_, ?_, ?_⟩ <;> assumption) | (intros; assumption) | (right; right; assumption) | (right; left; assumption) | (left; assumption)))) (by (first | assumption | (((try simp only [SA] at *); (try simp (disch := omega) only [SB, reduceCtorEq] at *)) <;> first | omega | assumption | (refine ⟨?_, ?_⟩ <;> assumption) | (refine ⟨?_, ?_, ?_⟩ <;> assumption) | (intros; assumption) | (right; right; assumption) | (right; left; assumption) | (left; assumption))))) (cP h0 nilE))))))))) (by kernel_rfl)
set_option maxHeartbeats 4000000 in
theorem rq4 : rq4_T := by
  intro w sg n i hw hi h2
  have h0 : (decide ((↑i : Int) < (↑(ByteArray.size { data := (List.toArray w) }) : Int))) = false := by (first | assumption | (((try simp only [SA] at *); (try simp (disch := omega) only [SB, reduceCtorEq] at *)) <;> first | omega | assumption | (refine ⟨?_, ?_⟩ <;> assumption) | (refine ⟨?_, ?_, ?_⟩ <;> assumption) | (intros; assumption) | (right; right; assumption) | (right; left; assumption) | (left; assumption)))
  exact (pR (r := ((Ex.exit (nat_lit 0)), { s := [((nat_lit 0), (V.d (D.str w))), ((nat_lit 2), (V.obj (nat_lit 0) (nat_lit 0))), ((nat_lit 3), (V.d (D.int IntKind.i64 sg))), ((nat_lit 4), (V.d (D.int IntKind.i64 n))), ((nat_lit 5), (V.d (D.int IntKind.i64 (↑i : Int)))), ((nat_lit 28), (V.d (D.bool (decide ((↑i : Int) < (↑(ByteArray.size { data := (List.toArray w) }) : Int))))))], h := [(Ob.cells [(V.d (D.int IntKind.i64 (0 : Int))), (V.d (D.str [])), (V.d (D.bool false))])], og := [] })) 12 [(2, bf)] (cP h0 nilE) (by kernel_rfl)).to (by ((try simp (disch := omega) only [wrapId, sizeOne, sizeStr, List.length_cons, List.length_nil, wrapU8, toNatAdd, toNatSucc] at *) <;> (try simp only [Int.toNat_natCast, beq_iff_eq, beq_eq_false_iff_ne, bne_iff_ne, bne_eq_false_iff_eq, ne_eq, Int.natCast_eq_zero, Int.natCast_inj] at *) <;> first | (simp (disch := omega) [Ty.enc, wrapId, toNatPred, toNatAdd, toNatSucc, sizeOne, sizeStr, List.length_cons, List.length_nil, wrapU8, ltF, ltT, Ty.slD, *]; done) | (subst_vars; simp (disch := omega) [Ty.enc, wrapId, toNatPred, toNatAdd, toNatSucc, sizeOne, sizeStr, List.length_cons, List.length_nil, wrapU8, ltF, ltT, Ty.slD, *]; done)))
set_option maxHeartbeats 4000000 in
theorem rd1 : rd1_T := by
  intro w s i hw ho hi h1 h2 h3
  have h0 : (decide ((↑i : Int) < (↑(ByteArray.size { data := (List.toArray w) }) : Int))) = true := by (first | assumption | (((try simp only [SA] at *); (try simp (disch := omega) only [SB, reduceCtorEq] at *)) <;> first | omega | assumption | (refine ⟨?_, ?_⟩ <;> assumption) | (refine ⟨?_, ?_, ?_⟩ <;> assumption) | (intros; assumption) | (right; right; assumption) | (right; left; assumption) | (left; assumption)))
  have h1 : ((byteAt w (Int.toNat (↑i : Int))) == (9 : Int)) = false := by (first | assumption | (((try simp only [SA] at *); (try simp (disch := omega) only [SB, reduceCtorEq] at *)) <;> first | omega | assumption | (refine ⟨?_, ?_⟩ <;> assumption) | (refine ⟨?_, ?_, ?_⟩ <;> assumption) | (intros; assumption) | (right; right; assumption) | (right; left; assumption) | (left; assumption)))
  have h2 : ((byteAt w (Int.toNat (↑i : Int))) == (10 : Int)) = false := by (first | assumption | (((try simp only [SA] at *); (try simp (disch := omega) only [SB, reduceCtorEq] at *)) <;> first | omega | assumption | (refine ⟨?_, ?_⟩ <;> assumption) | (refine ⟨?_, ?_, ?_⟩ <;> assumption) | (intros; assumption) | (right; right; assumption) | (right; left; assumption) | (left; assumption)))
  have h3 : ((byteAt w (Int.toNat (↑i : Int))) != (92 : Int)) = true := by (first | assumption | (((try simp only [SA] at *); (try simp (disch := omega) only [SB, reduceCtorEq] at *)) <;> first | omega | assumption | (refine ⟨?_, ?_⟩ <;> assumption) | (refine ⟨?_, ?_, ?_⟩ <;> assumption) | (intros; assumption) | (right; right; assumption) | (right; left; assumption) | (left; assumption)))
  exact (pC (st' := { s := [((nat_lit 0), (V.d (D.str w))), ((nat_lit 2), (V.obj (nat_lit 0) (nat_lit 0))), ((nat_lit 3), (V.d (D.str (s ++ [((fun (n : Int) => (UInt8.ofNat (Int.toNat n))) (byteAt w (Int.toNat (↑i : Int))))])))), ((nat_lit 4), (V.d (D.int IntKind.i64 (IntKind.wrap IntKind.i64 ((↑i : Int) + (1 : Int))))))], h := [(Ob.cells [(V.d (D.int IntKind.i64 (0 : Int))), (V.d (D.str [])), (V.d (D.bool false))])], og := [] }) 12 [(2, bt), (3, .v (V.d (D.int IntKind.u8 (byteAt w (Int.toNat (↑i : Int)))))), (5, bf), (6, bf), (7, bf), (8, .v (V.d (D.int IntKind.u8 (byteAt w (Int.toNat (↑i : Int)))))), (9, bf), (11, bf), (12, bf), (13, .v (V.d (D.int IntKind.u8 (byteAt w (Int.toNat (↑i : Int)))))), (15, bt), (17, .v (V.d (D.str (toBs [(byteAt w (Int.toNat (↑i : Int)))])))), (18, .v (V.d (D.str (s ++ [((fun (n : Int) => (UInt8.ofNat (Int.toNat n))) (byteAt w (Int.toNat (↑i : Int))))]))))] (cP (@strAdd (s) ([((fun (n : Int) => (UInt8.ofNat (Int.toNat n))) (byteAt w (Int.toNat (↑i : Int))))]) (by (first | assumption | (((try simp only [SA] at *); (try simp (disch := omega) only [SB, reduceCtorEq] at *)) <;> first | omega | assumption | (refine ⟨?_, ?_⟩ <;> assumption) | (refine ⟨?_, ?_, ?_⟩ <;> assumption) | (intros; assumption) | (right; right; assumption) | (right; left; assumption) | (left; assumption)))) (by (first | assumption | (((try simp only [SA] at *); (try simp (disch := omega) only [SB, reduceCtorEq] at *)) <;> first | omega | assumption | (refine ⟨?_, ?_⟩ <;> assumption) | (refine ⟨?_, ?_, ?_⟩ <;> assumption) | (intros; assumption) | (right; right; assumption) | (right; left; assumption) | (left; assumption))))) (cP (@sliceAt (w) ((↑i : Int)) (IntKind.wrap IntKind.i64 ((↑i : Int) + (1 : Int))) (by (first | assumption | (((try simp only [SA] at *); (try simp (disch := omega) only [SB, reduceCtorEq] at *)) <;> first | omega | assumption | (refine ⟨?_, ?_⟩ <;> assumption) | (refine ⟨?_, ?_, ?_⟩ <;> assumption) | (intros; assumption) | (right; right; assumption) | (right; left; assumption) | (left; assumption)))) (by (first | assumption | (((try simp only [SA] at *); (try simp (disch := omega) only [SB, reduceCtorEq] at *)) <;> first | omega | assumption | (refine ⟨?_, ?_⟩ <;> assumption) | (refine ⟨?_, ?_, ?_⟩ <;> assumption) | (intros; assumption) | (right; right; assumption) | (right; left; assumption) | (left; assumption)))) (by (first | assumption | (((try simp only [SA] at *); (try simp (disch := omega) only [SB, reduceCtorEq] at *)) <;> first | omega | assumption | (refine ⟨?_, ?_⟩ <;> assumption) | (refine ⟨?_, ?_, ?_⟩ <;> assumption) | (intros; assumption) | (right; right; assumption) | (right; left; assumption) | (left; assumption))))) (cP h3 (cP (@indexStr (w) ((↑i : Int)) (by (first | assumption | (((try simp only [SA] at *); (try simp (disch := omega) only [SB, reduceCtorEq] at *)) <;> first | omega | assumption | (refine ⟨?_, ?_⟩ <;> assumption) | (refine ⟨?_, ?_, ?_⟩ <;> assumption) | (intros; assumption) | (right; right; assumption) | (right; left; assumption) | (left; assumption)))) (by (first | assumption | (((try simp only [SA] at *); (try simp (disch := omega) only [SB, reduceCtorEq] at *)) <;> first | omega | assumption | (refine ⟨?_, ?_⟩ <;> assumption) | (refine ⟨?_, ?_, ?_⟩ <;> assumption) | (intros; assumption) | (right; right; assumption) | (right; left; assumption) | (left; assumption))))) (cP h2 (cP h1 (cP h1 (cP (@indexStr (w) ((↑i : Int)) (by (first | assumption | (((try simp only [SA] at *); (try simp (disch := omega) only [SB, reduceCtorEq] at *)) <;> first | omega | assumption | (refine ⟨?_, ?_⟩ <;> assumption) | (refine ⟨?_, ?_, ?_⟩ <;> assumption) | (intros; assumption) | (right; right; assumption) | (right; left; assumption) | (left; assumption)))) (by (first | assumption | (((try simp only [SA] at *); (try simp (disch := omega) only [SB, reduceCtorEq] at *)) <;> first | omega | assumption | (refine ⟨?_, ?_⟩ <;> assumption) | (refine ⟨?_, ?_, ?_⟩ <;> assumption) | (intros; assumption) | (right; right; assumption) | (right; left; assumption) | (left; assumption))))) (cP h1 (cP h1 (cP h1 (cP (@indexStr (w) ((↑i : Int)) (by (first | assumption | (((try simp only [SA] at *); (try simp (disch := omega) only [SB, reduceCtorEq] at *)) <;> first | omega | assumption | (refine ⟨?_, ?_⟩ <;> assumption) | (refine ⟨?_, ?_, ?_⟩ <;> assumption) | (intros; assumption) | (right; right; assumption) | (right; left; assumption) | (left; assumption)))) (by (first | assumption | (((try simp only [SA] at *); (try simp (disch := omega) only [SB, reduceCtorEq] at *)) <;> first | omega | assumption | (refine ⟨?_, ?_⟩ <;> assumption) | (refine ⟨?_, ?_, ?_⟩ <;> assumption) | (intros; assumption) | (right; right; assumption) | (right; left; assumption) | (left; assumption))))) (cP h0 nilE))))))))))))) (by kernel_rfl)).to (by ((try simp (disch := omega) only [wrapId, sizeOne, sizeStr, List.length_cons, List.length_nil, wrapU8, toNatAdd, toNatSucc] at *) <;> (try simp only [Int.toNat_natCast, beq_iff_eq, beq_eq_false_iff_ne, bne_iff_ne, bne_eq_false_iff_eq, ne_eq, Int.natCast_eq_zero, Int.natCast_inj] at *) <;> first | (simp (disch := omega) [Ty.enc, wrapId, toNatPred, toNatAdd, toNatSucc, sizeOne, sizeStr, List.length_cons, List.length_nil, wrapU8, ltF, ltT, Ty.slD, *]; done) | (subst_vars; simp (disch := omega) [Ty.enc, wrapId, toNatPred, toNatAdd, toNatSucc, sizeOne, sizeStr, List.length_cons, List.length_nil, wrapU8, ltF, ltT, Ty.slD, *]; done)))
set_option maxHeartbeats 4000000 in
theorem rd2 : rd2_T := by
  intro w s i hw ho hi h1
  have h0 : (decide ((↑i : Int) < (↑(ByteArray.size { data := (List.toArray w) }) : Int))) = true := by (first | assumption | (((try simp only [SA] at *); (try simp (disch := omega) only [SB, reduceCtorEq] at *)) <;> first | omega | assumption | (refine ⟨?_, ?_⟩ <;> assumption) | (refine ⟨?_, ?_, ?_⟩ <;> assumption) | (intros; assumption) | (right; right; assumption) | (right; left; assumption) | (left; assumption)))
  have h1 : ((byteAt w (Int.toNat (↑i : Int))) == (9 : Int)) = true := by (first | assumption | (((try simp only [SA] at *); (try simp (disch := omega) only [SB, reduceCtorEq] at *)) <;> first | omega | assumption | (refine ⟨?_, ?_⟩ <;> assumption) | (refine ⟨?_, ?_, ?_⟩ <;> assumption) | (intros; assumption) | (right; right; assumption) | (right; left; assumption) | (left; assumption)))
  exact pR 12 [(2, bt), (3, .v (V.d (D.int IntKind.u8 (byteAt w (Int.toNat (↑i : Int)))))), (5, bt), (6, bt), (7, bt), (8, bt), (9, bt)] (cP h1 (cP h1 (cP h1 (cP h1 (cP h1 (cP (@indexStr (w) ((↑i : Int)) (by (first | assumption | (((try simp only [SA] at *); (try simp (disch := omega) only [SB, reduceCtorEq] at *)) <;> first | omega | assumption | (refine ⟨?_, ?_⟩ <;> assumption) | (refine ⟨?_, ?_, ?_⟩ <;> assumption) | (intros; assumption) | (right; right; assumption) | (right; left; assumption) | (left; assumption)))) (by (first | assumption | (((try simp only [SA] at *); (try simp (disch := omega) only [SB, reduceCtorEq] at *)) <;> first | omega | assumption | (refine ⟨?_, ?_⟩ <;> assumption) | (refine ⟨?_, ?_, ?_⟩ <;> assumption) | (intros; assumption) | (right; right; assumption) | (right; left; assumption) | (left; assumption))))) (cP h0 nilE))))))) (by kernel_rfl)
set_option maxHeartbeats 4000000 in
theorem rd3 : rd3_T := by
  intro w s i hw ho hi h1
  have h0 : (decide ((↑i : Int) < (↑(ByteArray.size { data := (List.toArray w) }) : Int))) = true := by (first | assumption | (((try simp only [SA] at *); (try simp (disch := omega) only [SB, reduceCtorEq] at *)) <;> first | omega | assumption | (refine ⟨?_, ?_⟩ <;> assumption) | (refine ⟨?_, ?_, ?_⟩ <;> assumption) | (intros; assumption) | (right; right; assumption) | (right; left; assumption) | (left; assumption)))
  have h1 : ((byteAt w (Int.toNat (↑i : Int))) == (9 : Int)) = false := by (first | assumption | (((try simp only [SA] at *); (try simp (disch := omega) only [SB, reduceCtorEq] at *)) <;> first | omega | assumption | (refine ⟨?_, ?_⟩ <;> assumption) | (refine ⟨?_, ?_, ?_⟩ <;> assumption) | (intros; assumption) | (right; right; assumption) | (right; left; assumption) | (left; assumption)))
  have h2 : ((byteAt w (Int.toNat (↑i : Int))) == (10 : Int)) = true := by (first | assumption | (((try simp only [SA] at *); (try simp (disch := omega) only [SB, reduceCtorEq] at *)) <;> first | omega | assumption | (refine ⟨?_, ?_⟩ <;> assumption) | (refine ⟨?_, ?_, ?_⟩ <;> assumption) | (intros; assumption) | (right; right; assumption) | (right; left; assumption) | (left; assumption)))
  exact pR 12 [(2, bt), (3, .v (V.d (D.int IntKind.u8 (byteAt w (Int.toNat (↑i : Int)))))), (5, bf), (6, bf), (7, bf), (8, .v (V.d (D.int IntKind.u8 (byteAt w (Int.toNat (↑i : Int)))))), (9, bf), (11, bf), (12, bt)] (cP h2 (cP h1 (cP h1 (cP (@indexStr (w) ((↑i : Int)) (by (first | assumption | (((try simp only [SA] at *); (try simp (disch := omega) only [SB, reduceCtorEq] at *)) <;> first | omega | assumption | (refine ⟨?_, ?_⟩ <;> assumption) | (refine ⟨?_, ?_, ?_⟩ <;> assumption) | (intros; assumption) | (right; right; assumption) | (right; left; assumption) | (left; assumption)))) (by (first | assumption | (((try simp only [SA] at *); (try simp (disch := omega) only [SB, reduceCtorEq] at *)) <;> first | omega | assumption | (refine ⟨?_, ?_⟩ <;> assumption) | (refine ⟨?_, ?_, ?_⟩ <;> assumption) | (intros; assumption) | (right; right; assumption) | (right; left; assumption) | (left; assumption))))) (cP h1 (cP h1 (cP h1 (cP (@indexStr (w) ((↑i : Int)) (by (first | assumption | (((try simp only [SA] at *); (try simp (disch := omega) only [SB, reduceCtorEq] at *)) <;> first | omega | assumption | (refine ⟨?_, ?_⟩ <;> assumption) | (refine ⟨?_, ?_, ?_⟩ <;> assumption) | (intros; assumption) | (right; right; assumption) | (right; left; assumption) | (left; assumption)))) (by (first | assumption | (((try simp only [SA] at *); (try simp (disch := omega) only [SB, reduceCtorEq] at *)) <;> first | omega | assumption | (refine ⟨?_, ?_⟩ <;> assumption) | (refine ⟨?_, ?_, ?_⟩ <;> assumption) | (intros; assumption) | (right; right; assumption) | (right; left; assumption) | (left; assumption))))) (cP h0 nilE))))))))) (by kernel_rfl)
set_option maxHeartbeats 4000000 in
theorem rd4 : rd4_T := by
  intro w s i hw ho hi h1
  have h0 : (decide ((↑i : Int) < (↑(ByteArray.size { data := (List.toArray w) }) : Int))) = true := by (first | assumption | (((try simp only [SA] at *); (try simp (disch := omega) only [SB, reduceCtorEq] at *)) <;> first | omega | assumption | (refine ⟨?_, ?_⟩ <;> assumption) | (refine ⟨?_, ?_, ?_⟩ <;> assumption) | (intros; assumption) | (right; right; assumption) | (right; left; assumption) | (left; assumption)))
  have h1 : ((byteAt w (Int.toNat (↑i : Int))) == (9 : Int)) = false := by (first | assumption | (((try simp only [SA] at *); (try simp (disch := omega) only [SB, reduceCtorEq] at *)) <;> first | omega | assumption | (refine ⟨?_, ?_⟩ <;> assumption) | (refine ⟨?_, ?_, ?_⟩ <;> assumption) | (intros; assumption) | (right; right; assumption) | (right; left; assumption) | (left; assumption)))
  have h2 : ((byteAt w (Int.toNat (↑i : Int))) == (10 : Int)) = false := by (first | assumption | (((try simp only [SA] at *); (try simp (disch := omega) only [SB, reduceCtorEq] at *)) <;> first | omega | assumption | (refine ⟨?_, ?_⟩ <;> assumption) | (refine ⟨?_, ?_, ?_⟩ <;> assumption) | (intros; assumption) | (right; right; assumption) | (right; left; assumption) | (left; assumption)))
  have h3 : ((byteAt w (Int.toNat (↑i : Int))) != (92 : Int)) = false := by (first | assumption | (((try simp only [SA] at *); (try simp (disch := omega) only [SB, reduceCtorEq] at *)) <;> first | omega | assumption | (refine ⟨?_, ?_⟩ <;> assumption) | (refine ⟨?_, ?_, ?_⟩ <;> assumption) | (intros; assumption) | (right; right; assumption) | (right; left; assumption) | (left; assumption)))
  have h4 : ((IntKind.wrap IntKind.i64 ((↑i : Int) + (1 : Int))) == (↑(ByteArray.size { data := (List.toArray w) }) : Int)) = true := by (first | assumption | (((try simp only [SA] at *); (try simp (disch := omega) only [SB, reduceCtorEq] at *)) <;> first | omega | assumption | (refine ⟨?_, ?_⟩ <;> assumption) | (refine ⟨?_, ?_, ?_⟩ <;> assumption) | (intros; assumption) | (right; right; assumption) | (right; left; assumption) | (left; assumption)))
  exact pR 12 [(2, bt), (3, .v (V.d (D.int IntKind.u8 (byteAt w (Int.toNat (↑i : Int)))))), (5, bf), (6, bf), (7, bf), (8, .v (V.d (D.int IntKind.u8 (byteAt w (Int.toNat (↑i : Int)))))), (9, bf), (11, bf), (12, bf), (13, .v (V.d (D.int IntKind.u8 (byteAt w (Int.toNat (↑i : Int)))))), (15, bf), (19, bt)] (cP h4 (cP h3 (cP (@indexStr (w) ((↑i : Int)) (by (first | assumption | (((try simp only [SA] at *); (try simp (disch := omega) only [SB, reduceCtorEq] at *)) <;> first | omega | assumption | (refine ⟨?_, ?_⟩ <;> assumption) | (refine ⟨?_, ?_, ?_⟩ <;> assumption) | (intros; assumption) | (right; right; assumption) | (right; left; assumption) | (left; assumption)))) (by (first | assumption | (((try simp only [SA] at *); (try simp (disch := omega) only [SB, reduceCtorEq] at *)) <;> first | omega | assumption | (refine ⟨?_, ?_⟩ <;> assumption) | (refine ⟨?_, ?_, ?_⟩ <;> assumption) | (intros; assumption) | (right; right; assumption) | (right; left; assumption) | (left; assumption))))) (cP h2 (cP h1 (cP h1 (cP (@indexStr (w) ((↑i : Int)) (by (first | assumption | (((try simp only [SA] at *); (try simp (disch := omega) only [SB, reduceCtorEq] at *)) <;> first | omega | assumption | (refine ⟨?_, ?_⟩ <;> assumption) | (refine ⟨?_, ?_, ?_⟩ <;> assumption) | (intros; assumption) | (right; right; assumption) | (right; left; assumption) | (left; assumption)))) (by (first | assumption | (((try simp only [SA] at *); (try simp (disch := omega) only [SB, reduceCtorEq] at *)) <;> first | omega | assumption | (refine ⟨?_, ?_⟩ <;> assumption) | (refine ⟨?_, ?_, ?_⟩ <;> assumption) | (intros; assumption) | (right; right; assumption) | (right; left; assumption) | (left; assumption))))) (cP h1 (cP h1 (cP h1 (cP (@indexStr (w) ((↑i : Int)) (by (first | assumption | (((try simp only [SA] at *); (try simp (disch := omega) only [SB, reduceCtorEq] at *)) <;> first | omega | assumption | (refine ⟨?_, ?_⟩ <;> assumption) | (refine ⟨?_, ?_, ?_⟩ <;> assumption) | (intros; assumption) | (right; right; assumption) | (right; left; assumption) | (left; assumption)))) (by (first | assumption | (((try simp only [SA] at *); (try simp (disch := omega) only [SB, reduceCtorEq] at *)) <;> first | omega | assumption | (refine ⟨?_, ?_⟩ <;> assumption) | (refine ⟨?_, ?_, ?_⟩ <;> assumption) | (intros; assumption) | (right; right; assumption) | (right; left; assumption) | (left; assumption))))) (cP h0 nilE)))))))))))) (by kernel_rfl)
set_option maxHeartbeats 4000000 in
theorem rd5 : rd5_T := by
  intro w s i hw ho hi h1 h2
  have h0 : (decide ((↑i : Int) < (↑(ByteArray.size { data := (List.toArray w) }) : Int))) = true := by (first | assumption | (((try simp only [SA] at *); (try simp (disch := omega) only [SB, reduceCtorEq] at *)) <;> first | omega | assumption | (refine ⟨?_, ?_⟩ <;> assumption) | (refine ⟨?_, ?_, ?_⟩ <;> assumption) | (intros; assumption) | (right; right; assumption) | (right; left; assumption) | (left; assumption)))
  have h1 : ((byteAt w (Int.toNat (↑i : Int))) == (9 : Int)) = false := by (first | assumption | (((try simp only [SA] at *); (try simp (disch := omega) only [SB, reduceCtorEq] at *)) <;> first | omega | assumption | (refine ⟨?_, ?_⟩ <;> assumption) | (refine ⟨?_, ?_, ?_⟩ <;> assumption) | (intros; assumption) | (right; right; assumption) | (right; left; assumption) | (left; assumption)))
  have h2 : ((byteAt w (Int.toNat (↑i : Int))) == (10 : Int)) = false := by (first | assumption | (((try simp only [SA] at *); (try simp (disch := omega) only [SB, reduceCtorEq] at *)) <;> first | omega | assumption | (refine ⟨?_, ?_⟩ <;> assumption) | (refine ⟨?_, ?_, ?_⟩ <;> assumption) | (intros; assumption) | (right; right; assumption) | (right; left; assumption) | (left; assumption)))
  have h3 : ((byteAt w (Int.toNat (↑i : Int))) != (92 : Int)) = false := by (first | assumption | (((try simp only [SA] at *); (try simp (disch := omega) only [SB, reduceCtorEq] at *)) <;> first | omega | assumption | (refine ⟨?_, ?_⟩ <;> assumption) | (refine ⟨?_, ?_, ?_⟩ <;> assumption) | (intros; assumption) | (right; right; assumption) | (right; left; assumption) | (left; assumption)))
  have h4 : ((IntKind.wrap IntKind.i64 ((↑i : Int) + (1 : Int))) == (↑(ByteArray.size { data := (List.toArray w) }) : Int)) = false := by (first | assumption | (((try simp only [SA] at *); (try simp (disch := omega) only [SB, reduceCtorEq] at *)) <;> first | omega | assumption | (refine ⟨?_, ?_⟩ <;> assumption) | (refine ⟨?_, ?_, ?_⟩ <;> assumption) | (intros; assumption) | (right; right; assumption) | (right; left; assumption) | (left; assumption)))
  have h5 : ((byteAt w (Int.toNat (IntKind.wrap IntKind.i64 ((↑i : Int) + (1 : Int))))) == (115 : Int)) = true := by (first | assumption | (((try simp only [SA] at *); (try simp (disch := omega) only [SB, reduceCtorEq] at *)) <;> first | omega | assumption | (refine ⟨?_, ?_⟩ <;> assumption) | (refine ⟨?_, ?_, ?_⟩ <;> assumption) | (intros; assumption) | (right; right; assumption) | (right; left; assumption) | (left; assumption)))
  exact (pC (st' := { s := [((nat_lit 0), (V.d (D.str w))), ((nat_lit 2), (V.obj (nat_lit 0) (nat_lit 0))), ((nat_lit 3), (V.d (D.str (s ++ [(32 : UInt8)])))), ((nat_lit 4), (V.d (D.int IntKind.i64 (IntKind.wrap IntKind.i64 ((↑i : Int) + (2 : Int))))))], h := [(Ob.cells [(V.d (D.int IntKind.i64 (0 : Int))), (V.d (D.str [])), (V.d (D.bool false))])], og := [] }) 12 [(2, bt), (3, .v (V.d (D.int IntKind.u8 (byteAt w (Int.toNat (↑i : Int)))))), (5, bf), (6, bf), (7, bf), (8, .v (V.d (D.int IntKind.u8 (byteAt w (Int.toNat (↑i : Int)))))), (9, bf), (11, bf), (12, bf), (13, .v (V.d (D.int IntKind.u8 (byteAt w (Int.toNat (↑i : Int)))))), (15, bf), (19, bf), (21, .v (V.d (D.int IntKind.u8 (byteAt w (Int.toNat (IntKind.wrap IntKind.i64 ((↑i : Int) + (1 : Int)))))))), (23, bt), (24, .v (V.d (D.str (s ++ [(32 : UInt8)]))))] (cP (@strAdd (s) ([(32 : UInt8)]) (by (first | assumption | (((try simp only [SA] at *); (try simp (disch := omega) only [SB, reduceCtorEq] at *)) <;> first | omega | assumption | (refine ⟨?_, ?_⟩ <;> assumption) | (refine ⟨?_, ?_, ?_⟩ <;> assumption) | (intros; assumption) | (right; right; assumption) | (right; left; assumption) | (left; assumption)))) (by (first | assumption | (((try simp only [SA] at *); (try simp (disch := omega) only [SB, reduceCtorEq] at *)) <;> first | omega | assumption | (refine ⟨?_, ?_⟩ <;> assumption) | (refine ⟨?_, ?_, ?_⟩ <;> assumption) | (intros; assumption) | (right; right; assumption) | (right; left; assumption) | (left; assumption))))) (cP h5 (cP (@indexStr (w) (IntKind.wrap IntKind.i64 ((↑i : Int) + (1 : Int))) (by (first | assumption | (((try simp only [SA] at *); (try simp (disch := omega) only [SB, reduceCtorEq] at *)) <;> first | omega | assumption | (refine ⟨?_, ?_⟩ <;> assumption) | (refine ⟨?_, ?_, ?_⟩ <;> assumption) | (intros; assumption) | (right; right; assumption) | (right; left; assumption) | (left; assumption)))) (by (first | assumption | (((try simp only [SA] at *); (try simp (disch := omega) only [SB, reduceCtorEq] at *)) <;> first | omega | assumption | (refine ⟨?_, ?_⟩ <;> assumption) | (refine ⟨?_, ?_, ?_⟩ <;> assumption) | (intros; assumption) | (right; right; assumption) | (right; left; assumption) | (left; assumption))))) (cP h4 (cP h3 (cP (@indexStr (w) ((↑i : Int)) (by (first | assumption | (((try simp only [SA] at *); (try simp (disch := omega) only [SB, reduceCtorEq] at *)) <;> first | omega | assumption | (refine ⟨?_, ?_⟩ <;> assumption) | (refine ⟨?_, ?_, ?_⟩ <;> assumption) | (intros; assumption) | (right; right; assumption) | (right; left; assumption) | (left; assumption)))) (by (first | assumption | (((try simp only [SA] at *); (try simp (disch := omega) only [SB, reduceCtorEq] at *)) <;> first | omega | assumption | (refine ⟨?_, ?_⟩ <;> assumption) | (refine ⟨?_, ?_, ?_⟩ <;> assumption) | (intros; assumption) | (right; right; assumption) | (right; left; assumption) | (left; assumption))))) (cP h2 (cP h1 (cP h1 (cP (@indexStr (w) ((↑i : Int)) (by (first | assumption | (((try simp only [SA] at *); (try simp (disch := omega) only [SB, reduceCtorEq] at *)) <;> first | omega | assumption | (refine ⟨?_, ?_⟩ <;> assumption) | (refine ⟨?_, ?_, ?_⟩ <;> assumption) | (intros; assumption) | (right; right; assumption) | (right; left; assumption) | (left; assumption)))) (by (first | assumption | (((try simp only [SA] at *); (try simp (disch := omega) only [SB, reduceCtorEq] at *)) <;> first | omega | assumption | (refine ⟨?_, ?_⟩ <;> assumption) | (refine ⟨?_, ?_, ?_⟩ <;> assumption) | (intros; assumption) | (right; right; assumption) | (right; left; assumption) | (left; assumption))))) (cP h1 (cP h1 (cP h1 (cP (@indexStr (w) ((↑i : Int)) (by (first | assumption | (((try simp only [SA] at *); (try simp (disch := omega) only [SB, reduceCtorEq] at *)) <;> first | omega | assumption | (refine ⟨?_, ?_⟩ <;> assumption) | (refine ⟨?_, ?_, ?_⟩ <;> assumption) | (intros; assumption) | (right; right; assumption) | (right; left; assumption) | (left; assumption)))) (by (first | assumption | (((try simp only [SA] at *); (try simp (disch := omega) only [SB, reduceCtorEq] at *)) <;> first | omega | assumption | (refine ⟨?_, ?_⟩ <;> assumption) | (refine ⟨?_, ?_, ?_⟩ <;> assumption) | (intros; assumption) | (right; right; assumption) | (right; left; assumption) | (left; assumption))))) (cP h0 nilE))))))))))))))) (by kernel_rfl)).to (by ((try simp (disch := omega) only [wrapId, sizeOne, sizeStr, List.length_cons, List.length_nil, wrapU8, toNatAdd, toNatSucc] at *) <;> (try simp only [Int.toNat_natCast, beq_iff_eq, beq_eq_false_iff_ne, bne_iff_ne, bne_eq_false_iff_eq, ne_eq, Int.natCast_eq_zero, Int.natCast_inj] at *) <;> first | (simp (disch := omega) [Ty.enc, wrapId, toNatPred, toNatAdd, toNatSucc, sizeOne, sizeStr, List.length_cons, List.length_nil, wrapU8, ltF, ltT, Ty.slD, *]; done) | (subst_vars; simp (disch := omega) [Ty.enc, wrapId, toNatPred, toNatAdd, toNatSucc, sizeOne, sizeStr, List.length_cons, List.length_nil, wrapU8, ltF, ltT, Ty.slD, *]; done)))
set_option maxHeartbeats 4000000 in
theorem rd6 : rd6_T := by
  intro w s i hw ho hi h1 h2
  have h0 : (decide ((↑i : Int) < (↑(ByteArray.size { data := (List.toArray w) }) : Int))) = true := by (first | assumption | (((try simp only [SA] at *); (try simp (disch := omega) only [SB, reduceCtorEq] at *)) <;> first | omega | assumption | (refine ⟨?_, ?_⟩ <;> assumption) | (refine ⟨?_, ?_, ?_⟩ <;> assumption) | (intros; assumption) | (right; right; assumption) | (right; left; assumption) | (left; assumption)))
  have h1 : ((byteAt w (Int.toNat (↑i : Int))) == (9 : Int)) = false := by (first | assumption | (((try simp only [SA] at *); (try simp (disch := omega) only [SB, reduceCtorEq] at *)) <;> first | omega | assumption | (refine ⟨?_, ?_⟩ <;> assumption) | (refine ⟨?_, ?_, ?_⟩ <;> assumption) | (intros; assumption) | (right; right; assumption) | (right; left; assumption) | (left; assumption)))
  have h2 : ((byteAt w (Int.toNat (↑i : Int))) == (10 : Int)) = false := by (first | assumption | (((try simp only [SA] at *); (try simp (disch := omega) only [SB, reduceCtorEq] at *)) <;> first | omega | assumption | (refine ⟨?_, ?_⟩ <;> assumption) | (refine ⟨?_, ?_, ?_⟩ <;> assumption) | (intros; assumption) | (right; right; assumption) | (right; left; assumption) | (left; assumption)))
  have h3 : ((byteAt w (Int.toNat (↑i : Int))) != (92 : Int)) = false := by (first | assumption | (((try simp only [SA] at *); (try simp (disch := omega) only [SB, reduceCtorEq] at *)) <;> first | omega | assumption | (refine ⟨?_, ?_⟩ <;> assumption) | (refine ⟨?_, ?_, ?_⟩ <;> assumption) | (intros; assumption) | (right; right; assumption) | (right; left; assumption) | (left; assumption)))
  have h4 : ((IntKind.wrap IntKind.i64 ((↑i : Int) + (1 : Int))) == (↑(ByteArray.size { data := (List.toArray w) }) : Int)) = false := by (first | assumption | (((try simp only [SA] at *); (try simp (disch := omega) only [SB, reduceCtorEq] at *)) <;> first | omega | assumption | (refine ⟨?_, ?_⟩ <;> assumption) | (refine ⟨?_, ?_, ?_⟩ <;> assumption) | (intros; assumption) | (right; right; assumption) | (right; left; assumption) | (left; assumption)))
  have h5 : ((byteAt w (Int.toNat (IntKind.wrap IntKind.i64 ((↑i : Int) + (1 : Int))))) == (115 : Int)) = false := by (first | assumption | (((try simp only [SA] at *); (try simp (disch := omega) only [SB, reduceCtorEq] at *)) <;> first | omega | assumption | (refine ⟨?_, ?_⟩ <;> assumption) | (refine ⟨?_, ?_, ?_⟩ <;> assumption) | (intros; assumption) | (right; right; assumption) | (right; left; assumption) | (left; assumption)))
  have h6 : ((byteAt w (Int.toNat (IntKind.wrap IntKind.i64 ((↑i : Int) + (1 : Int))))) == (110 : Int)) = true := by (first | assumption | (((try simp only [SA] at *); (try simp (disch := omega) only [SB, reduceCtorEq] at *)) <;> first | omega | assumption | (refine ⟨?_, ?_⟩ <;> assumption) | (refine ⟨?_, ?_, ?_⟩ <;> assumption) | (intros; assumption) | (right; right; assumption) | (right; left; assumption) | (left; assumption)))
  exact (pC (st' := { s := [((nat_lit 0), (V.d (D.str w))), ((nat_lit 2), (V.obj (nat_lit 0) (nat_lit 0))), ((nat_lit 3), (V.d (D.str (s ++ [(10 : UInt8)])))), ((nat_lit 4), (V.d (D.int IntKind.i64 (IntKind.wrap IntKind.i64 ((↑i : Int) + (2 : Int))))))], h := [(Ob.cells [(V.d (D.int IntKind.i64 (0 : Int))), (V.d (D.str [])), (V.d (D.bool false))])], og := [] }) 12 [(2, bt), (3, .v (V.d (D.int IntKind.u8 (byteAt w (Int.toNat (↑i : Int)))))), (5, bf), (6, bf), (7, bf), (8, .v (V.d (D.int IntKind.u8 (byteAt w (Int.toNat (↑i : Int)))))), (9, bf), (11, bf), (12, bf), (13, .v (V.d (D.int IntKind.u8 (byteAt w (Int.toNat (↑i : Int)))))), (15, bf), (19, bf), (21, .v (V.d (D.int IntKind.u8 (byteAt w (Int.toNat (IntKind.wrap IntKind.i64 ((↑i : Int) + (1 : Int)))))))), (23, bf), (25, bt), (26, .v (V.d (D.str (s ++ [(10 : UInt8)]))))] (cP (@strAdd (s) ([(10 : UInt8)]) (by (first | assumption | (((try simp only [SA] at *); (try simp (disch := omega) only [SB, reduceCtorEq] at *)) <;> first | omega | assumption | (refine ⟨?_, ?_⟩ <;> assumption) | (refine ⟨?_, ?_, ?_⟩ <;> assumption) | (intros; assumption) | (right; right; assumption) | (right; left; assumption) | (left; assumption)))) (by (first | assumption | (((try simp only [SA] at *); (try simp (disch := omega) only [SB, reduceCtorEq] at *)) <;> first | omega | assumption | (refine ⟨?_, ?_⟩ <;> assumption) | (refine ⟨?_, ?_, ?_⟩ <;> assumption) | (intros; assumption) | (right; right; assumption) | (right; left; assumption) | (left; assumption))))) (cP h6 (cP h5 (cP (@indexStr (w) (IntKind.wrap IntKind.i64 ((↑i : Int) + (1 : Int))) (by (first | assumption | (((try simp only [SA] at *); (try simp (disch := omega) only [SB, reduceCtorEq] at *)) <;> first | omega | assumption | (refine ⟨?_, ?_⟩ <;> assumption) | (refine ⟨?_, ?_, ?_⟩ <;> assumption) | (intros; assumption) | (right; right; assumption) | (right; left; assumption) | (left; assumption)))) (by (first | assumption | (((try simp only [SA] at *); (try simp (disch := omega) only [SB, reduceCtorEq] at *)) <;> first | omega | assumption | (refine ⟨?_, ?_⟩ <;> assumption) | (refine ⟨?_, ?_, ?_⟩ <;> assumption) | (intros; assumption) | (right; right; assumption) | (right; left; assumption) | (left; assumption))))) (cP h4 (cP h3 (cP (@indexStr (w) ((↑i : Int)) (by (first | assumption | (((try simp only [SA] at *); (try simp (disch := omega) only [SB, reduceCtorEq] at *)) <;> first | omega | assumption | (refine ⟨?_, ?_⟩ <;> assumption) | (refine ⟨?_, ?_, ?_⟩ <;> assumption) | (intros; assumption) | (right; right; assumption) | (right; left; assumption) | (left; assumption)))) (by (first | assumption | (((try simp only [SA] at *); (try simp (disch := omega) only [SB, reduceCtorEq] at *)) <;> first | omega | assumption | (refine ⟨?_, ?_⟩ <;> assumption) | (refine ⟨?_, ?_, ?_⟩ <;> assumption) | (intros; assumption) | (right; right; assumption) | (right; left; assumption) | (left; assumption))))) (cP h2 (cP h1 (cP h1 (cP (@indexStr (w) ((↑i : Int)) (by (first | assumption | (((try simp only [SA] at *); (try simp (disch := omega) only [SB, reduceCtorEq] at *)) <;> first | omega | assumption | (refine ⟨?_, ?_⟩ <;> assumption) | (refine ⟨?_, ?_, ?_⟩ <;> assumption) | (intros; assumption) | (right; right; assumption) | (right; left; assumption) | (left; assumption)))) (by (first | assumption | (((try simp only [SA] at *); (try simp (disch := omega) only [SB, reduceCtorEq] at *)) <;> first | omega | assumption | (refine ⟨?_, ?_⟩ <;> assumption) | (refine ⟨?_, ?_, ?_⟩ <;> assumption) | (intros; assumption) | (right; right; assumption) | (right; left; assumption) | (left; assumption))))) (cP h1 (cP h1 (cP h1 (cP (@indexStr (w) ((↑i : Int)) (by (first | assumption | (((try simp only [SA] at *); (try simp (disch := omega) only [SB, reduceCtorEq] at *)) <;> first | omega | assumption | (refine ⟨?_, ?_⟩ <;> assumption) | (refine ⟨?_, ?_, ?_⟩ <;> assumption) | (intros; assumption) | (right; right; assumption) | (right; left; assumption) | (left; assumption)))) (by (first | assumption | (((try simp only [SA] at *); (try simp (disch := omega) only [SB, reduceCtorEq] at *)) <;> first | omega | assumption | (refine ⟨?_, ?_⟩ <;> assumption) | (refine ⟨?_, ?_, ?_⟩ <;> assumption) | (intros; assumption) | (right; right; assumption) | (right; left; assumption) | (left; assumption))))) (cP h0 nilE)))))))))))))))) (by kernel_rfl)).to (by ((try simp (disch := omega) only [wrapId, sizeOne, sizeStr, List.length_cons, List.length_nil, wrapU8, toNatAdd, toNatSucc] at *) <;> (try simp only [Int.toNat_natCast, beq_iff_eq, beq_eq_false_iff_ne, bne_iff_ne, bne_eq_false_iff_eq, ne_eq, Int.natCast_eq_zero, Int.natCast_inj] at *) <;> first | (simp (disch := omega) [Ty.enc, wrapId, toNatPred, toNatAdd, toNatSucc, sizeOne, sizeStr, List.length_cons, List.length_nil, wrapU8, ltF, ltT, Ty.slD, *]; done) | (subst_vars; simp (disch := omega) [Ty.enc, wrapId, toNatPred, toNatAdd, toNatSucc, sizeOne, sizeStr, List.length_cons, List.length_nil, wrapU8, ltF, ltT, Ty.slD, *]; done)))
set_option maxHeartbeats 4000000 in
theorem rd7 : rd7_T := by
  intro w s i hw ho hi h1 h2
  have h0 : (decide ((↑i : Int) < (↑(ByteArray.size { data := (List.toArray w) }) : Int))) = true := by (first | assumption | (((try simp only [SA] at *); (try simp (disch := omega) only [SB, reduceCtorEq] at *)) <;> first | omega | assumption | (refine ⟨?_, ?_⟩ <;> assumption) | (refine ⟨?_, ?_, ?_⟩ <;> assumption) | (intros; assumption) | (right; right; assumption) | (right; left; assumption) | (left; assumption)))
  have h1 : ((byteAt w (Int.toNat (↑i : Int))) == (9 : Int)) = false := by (first | assumption | (((try simp only [SA] at *); (try simp (disch := omega) only [SB, reduceCtorEq] at *)) <;> first | omega | assumption | (refine ⟨?_, ?_⟩ <;> assumption) | (refine ⟨?_, ?_, ?_⟩ <;> assumption) | (intros; assumption) | (right; right; assumption) | (right; left; assumption) | (left; assumption)))
  have h2 : ((byteAt w (Int.toNat (↑i : Int))) == (10 : Int)) = false := by (first | assumption | (((try simp only [SA] at *); (try simp (disch := omega) only [SB, reduceCtorEq] at *)) <;> first | omega | assumption | (refine ⟨?_, ?_⟩ <;> assumption) | (refine ⟨?_, ?_, ?_⟩ <;> assumption) | (intros; assumption) | (right; right; assumption) | (right; left; assumption) | (left; assumption)))
  have h3 : ((byteAt w (Int.toNat (↑i : Int))) != (92 : Int)) = false := by (first | assumption | (((try simp only [SA] at *); (try simp (disch := omega) only [SB, reduceCtorEq] at *)) <;> first | omega | assumption | (refine ⟨?_, ?_⟩ <;> assumption) | (refine ⟨?_, ?_, ?_⟩ <;> assumption) | (intros; assumption) | (right; right; assumption) | (right; left; assumption) | (left; assumption)))
  have h4 : ((IntKind.wrap IntKind.i64 ((↑i : Int) + (1 : Int))) == (↑(ByteArray.size { data := (List.toArray w) }) : Int)) = false := by (first | assumption | (((try simp only [SA] at *); (try simp (disch := omega) only [SB, reduceCtorEq] at *)) <;> first | omega | assumption | (refine ⟨?_, ?_⟩ <;> assumption) | (refine ⟨?_, ?_, ?_⟩ <;> assumption) | (intros; assumption) | (right; right; assumption) | (right; left; assumption) | (left; assumption)))
  have h5 : ((byteAt w (Int.toNat (IntKind.wrap IntKind.i64 ((↑i : Int) + (1 : Int))))) == (115 : Int)) = false := by (first | assumption | (((try simp only [SA] at *); (try simp (disch := omega) only [SB, reduceCtorEq] at *)) <;> first | omega | assumption | (refine ⟨?_, ?_⟩ <;> assumption) | (refine ⟨?_, ?_, ?_⟩ <;> assumption) | (intros; assumption) | (right; right; assumption) | (right; left; assumption) | (left; assumption)))
  have h6 : ((byteAt w (Int.toNat (IntKind.wrap IntKind.i64 ((↑i : Int) + (1 : Int))))) == (110 : Int)) = false := by (first | assumption | (((try simp only [SA] at *); (try simp (disch := omega) only [SB, reduceCtorEq] at *)) <;> first | omega | assumption | (refine ⟨?_, ?_⟩ <;> assumption) | (refine ⟨?_, ?_, ?_⟩ <;> assumption) | (intros; assumption) | (right; right; assumption) | (right; left; assumption) | (left; assumption)))
  have h7 : ((byteAt w (Int.toNat (IntKind.wrap IntKind.i64 ((↑i : Int) + (1 : Int))))) == (116 : Int)) = true := by (first | assumption | (((try simp only [SA] at *); (try simp (disch := omega) only [SB, reduceCtorEq] at *)) <;> first | omega | assumption | (refine ⟨?_, ?_⟩ <;> assumption) | (refine ⟨?_, ?_, ?_⟩ <;> assumption) | (intros; assumption) | (right; right; assumption) | (right; left; assumption) | (left; assumption)))
  exact (pC (st' := { s := [((nat_lit 0), (V.d (D.str w))), ((nat_lit 2), (V.obj (nat_lit 0) (nat_lit 0))), ((nat_lit 3), (V.d (D.str (s ++ [(9 : UInt8)])))), ((nat_lit 4), (V.d (D.int IntKind.i64 (IntKind.wrap IntKind.i64 ((↑i : Int) + (2 : Int))))))], h := [(Ob.cells [(V.d (D.int IntKind.i64 (0 : Int))), (V.d (D.str [])), (V.d (D.bool false))])], og := [] }) 12 [(2, bt), (3, .v (V.d (D.int IntKind.u8 (byteAt w (Int.toNat (↑i : Int)))))), (5, bf), (6, bf), (7, bf), (8, .v (V.d (D.int IntKind.u8 (byteAt w (Int.toNat (↑i : Int)))))), (9, bf), (11, bf), (12, bf), (13, .v (V.d (D.int IntKind.u8 (byteAt w (Int.toNat (↑i : Int)))))), (15, bf), (19, bf), (21, .v (V.d (D.int IntKind.u8 (byteAt w (Int.toNat (IntKind.wrap IntKind.i64 ((↑i : Int) + (1 : Int)))))))), (23, bf), (25, bf), (27, bt), (28, .v (V.d (D.str (s ++ [(9 : UInt8)]))))] (cP (@strAdd (s) ([(9 : UInt8)]) (by (first | assumption | (((try simp only [SA] at *); (try simp (disch := omega) only [SB, reduceCtorEq] at *)) <;> first | omega | assumption | (refine ⟨?_, ?_⟩ <;> assumption) | (refine ⟨?_, ?_, ?_⟩ <;> assumption) | (intros; assumption) | (right; right; assumption) | (right; left; assumption) | (left; assumption)))) (by (first | assumption | (((try simp only [SA] at *); (try simp (disch := omega) only [SB, reduceCtorEq] at *)) <;> first | omega | assumption | (refine ⟨?_, ?_⟩ <;> assumption) | (refine ⟨?_, ?_, ?_⟩ <;> assumption) | (intros; assumption) | (right; right; assumption) | (right; left; assumption) | (left; assumption))))) (cP h7 (cP h6 (cP h5 (cP (@indexStr (w) (IntKind.wrap IntKind.i64 ((↑i : Int) + (1 : Int))) (by (first | assumption | (((try simp only [SA] at *); (try simp (disch := omega) only [SB, reduceCtorEq] at *)) <;> first | omega | assumption | (refine ⟨?_, ?_⟩ <;> assumption) | (refine ⟨?_, ?_, ?_⟩ <;> assumption) | (intros; assumption) | (right; right; assumption) | (right; left; assumption) | (left; assumption)))) (by (first | assumption | (((try simp only [SA] at *); (try simp (disch := omega) only [SB, reduceCtorEq] at *)) <;> first | omega | assumption | (refine ⟨?_, ?_⟩ <;> assumption) | (refine ⟨?_, ?_, ?_⟩ <;> assumption) | (intros; assumption) | (right; right; assumption) | (right; left; assumption) | (left; assumption))))) (cP h4 (cP h3 (cP (@indexStr (w) ((↑i : Int)) (by (first | assumption | (((try simp only [SA] at *); (try simp (disch := omega) only [SB, reduceCtorEq] at *)) <;> first | omega | assumption | (refine ⟨?_, ?_⟩ <;> assumption) | (refine ⟨?_, ?_, ?_⟩ <;> assumption) | (intros; assumption) | (right; right; assumption) | (right; left; assumption) | (left; assumption)))) (by (first | assumption | (((try simp only [SA] at *); (try simp (disch := omega) only [SB, reduceCtorEq] at *)) <;> first | omega | assumption | (refine ⟨?_, ?_⟩ <;> assumption) | (refine ⟨?_, ?_, ?_⟩ <;> assumption) | (intros; assumption) | (right; right; assumption) | (right; left; assumption) | (left; assumption))))) (cP h2 (cP h1 (cP h1 (cP (@indexStr (w) ((↑i : Int)) (by (first | assumption | (((try simp only [SA] at *); (try simp (disch := omega) only [SB, reduceCtorEq] at *)) <;> first | omega | assumption | (refine ⟨?_, ?_⟩ <;> assumption) | (refine ⟨?_, ?_, ?_⟩ <;> assumption) | (intros; assumption) | (right; right; assumption) | (right; left; assumption) | (left; assumption)))) (by (first | assumption | (((try simp only [SA] at *); (try simp (disch := omega) only [SB, reduceCtorEq] at *)) <;> first | omega | assumption | (refine ⟨?_, ?_⟩ <;> assumption) | (refine ⟨?_, ?_, ?_⟩ <;> assumption) | (intros; assumption) | (right; right; assumption) | (right; left; assumption) | (left; assumption))))) (cP h1 (cP h1 (cP h1 (cP (@indexStr (w) ((↑i : Int)) (by (first | assumption | (((try simp only [SA] at *); (try simp (disch := omega) only [SB, reduceCtorEq] at *)) <;> first | omega | assumption | (refine ⟨?_, ?_⟩ <;> assumption) | (refine ⟨?_, ?_, ?_⟩ <;> assumption) | (intros; assumption) | (right; right; assumption) | (right; left; assumption) | (left; assumption)))) (by (first | assumption | (((try simp only [SA] at *); (try simp (disch := omega) only [SB, reduceCtorEq] at *)) <;> first | omega | assumption | (refine ⟨?_, ?_⟩ <;> assumption) | (refine ⟨?_, ?_, ?_⟩ <;> assumption) | (intros; assumption) | (right; right; assumption) | (right; left; assumption) | (left; assumption))))) (cP h0 nilE))))))))))))))))) (by kernel_rfl)).to (by ((try simp (disch := omega) only [wrapId, sizeOne, sizeStr, List.length_cons, List.length_nil, wrapU8, toNatAdd, toNatSucc] at *) <;> (try simp only [Int.toNat_natCast, beq_iff_eq, beq_eq_false_iff_ne, bne_iff_ne, bne_eq_false_iff_eq, ne_eq, Int.natCast_eq_zero, Int.natCast_inj] at *) <;> first | (simp (disch := omega) [Ty.enc, wrapId, toNatPred, toNatAdd, toNatSucc, sizeOne, sizeStr, List.length_cons, List.length_nil, wrapU8, ltF, ltT, Ty.slD, *]; done) | (subst_vars; simp (disch := omega) [Ty.enc, wrapId, toNatPred, toNatAdd, toNatSucc, sizeOne, sizeStr, List.length_cons, List.length_nil, wrapU8, ltF, ltT, Ty.slD, *]; done)))
set_option maxHeartbeats 4000000 in
theorem rd8 : rd8_T := by
  intro w s i hw ho hi h1 h2
  have h0 : (decide ((↑i : Int) < (↑(ByteArray.size { data := (List.toArray w) }) : Int))) = true := by (first | assumption | (((try simp only [SA] at *); (try simp (disch := omega) only [SB, reduceCtorEq] at *)) <;> first | omega | assumption | (refine ⟨?_, ?_⟩ <;> assumption) | (refine ⟨?_, ?_, ?_⟩ <;> assumption) | (intros; assumption) | (right; right; assumption) | (right; left; assumption) | (left; assumption)))
  have h1 : ((byteAt w (Int.toNat (↑i : Int))) == (9 : Int)) = false := by (first | assumption | (((try simp only [SA] at *); (try simp (disch := omega) only [SB, reduceCtorEq] at *)) <;> first | omega | assumption | (refine ⟨?_, ?_⟩ <;> assumption) | (refine ⟨?_, ?_, ?_⟩ <;> assumption) | (intros; assumption) | (right; right; assumption) | (right; left; assumption) | (left; assumption)))
  have h2 : ((byteAt w (Int.toNat (↑i : Int))) == (10 : Int)) = false := by (first | assumption | (((try simp only [SA] at *); (try simp (disch := omega) only [SB, reduceCtorEq] at *)) <;> first | omega | assumption | (refine ⟨?_, ?_⟩ <;> assumption) | (refine ⟨?_, ?_, ?_⟩ <;> assumption) | (intros; assumption) | (right; right; assumption) | (right; left; assumption) | (left; assumption)))
  have h3 : ((byteAt w (Int.toNat (↑i : Int))) != (92 : Int)) = false := by (first | assumption | (((try simp only [SA] at *); (try simp (disch := omega) only [SB, reduceCtorEq] at *)) <;> first | omega | assumption | (refine ⟨?_, ?_⟩ <;> assumption) | (refine ⟨?_, ?_, ?_⟩ <;> assumption) | (intros; assumption) | (right; right; assumption) | (right; left; assumption) | (left; assumption)))
  have h4 : ((IntKind.wrap IntKind.i64 ((↑i : Int) + (1 : Int))) == (↑(ByteArray.size { data := (List.toArray w) }) : Int)) = false := by (first | assumption | (((try simp only [SA] at *); (try simp (disch := omega) only [SB, reduceCtorEq] at *)) <;> first | omega | assumption | (refine ⟨?_, ?_⟩ <;> assumption) | (refine ⟨?_, ?_, ?_⟩ <;> assumption) | (intros; assumption) | (right; right; assumption) | (right; left; assumption) | (left; assumption)))
  have h5 : ((byteAt w (Int.toNat (IntKind.wrap IntKind.i64 ((↑i : Int) + (1 : Int))))) == (115 : Int)) = false := by (first | assumption | (((try simp only [SA] at *); (try simp (disch := omega) only [SB, reduceCtorEq] at *)) <;> first | omega | assumption | (refine ⟨?_, ?_⟩ <;> assumption) | (refine ⟨?_, ?_, ?_⟩ <;> assumption) | (intros; assumption) | (right; right; assumption) | (right; left; assumption) | (left; assumption)))
  have h6 : ((byteAt w (Int.toNat (IntKind.wrap IntKind.i64 ((↑i : Int) + (1 : Int))))) == (110 : Int)) = false := by (first | assumption | (((try simp only [SA] at *); (try simp (disch := omega) only [SB, reduceCtorEq] at *)) <;> first | omega | assumption | (refine ⟨?_, ?_⟩ <;> assumption) | (refine ⟨?_, ?_, ?_⟩ <;> assumption) | (intros; assumption) | (right; right; assumption) | (right; left; assumption) | (left; assumption)))
  have h7 : ((byteAt w (Int.toNat (IntKind.wrap IntKind.i64 ((↑i : Int) + (1 : Int))))) == (116 : Int)) = false := by (first | assumption | (((try simp only [SA] at *); (try simp (disch := omega) only [SB, reduceCtorEq] at *)) <;> first | omega | assumption | (refine ⟨?_, ?_⟩ <;> assumption) | (refine ⟨?_, ?_, ?_⟩ <;> assumption) | (intros; assumption) | (right; right; assumption) | (right; left; assumption) | (left; assumption)))
  have h8 : ((byteAt w (Int.toNat (IntKind.wrap IntKind.i64 ((↑i : Int) + (1 : Int))))) == (92 : Int)) = true := by (first | assumption | (((try simp only [SA] at *); (try simp (disch := omega) only [SB, reduceCtorEq] at *)) <;> first | omega | assumption | (refine ⟨?_, ?_⟩ <;> assumption) | (refine ⟨?_, ?_, ?_⟩ <;> assumption) | (intros; assumption) | (right; right; assumption) | (right; left; assumption) | (left; assumption)))
  exact (pC (st' := { s := [((nat_lit 0), (V.d (D.str w))), ((nat_lit 2), (V.obj (nat_lit 0) (nat_lit 0))), ((nat_lit 3), (V.d (D.str (s ++ [(92 : UInt8)])))), ((nat_lit 4), (V.d (D.int IntKind.i64 (IntKind.wrap IntKind.i64 ((↑i : Int) + (2 : Int))))))], h := [(Ob.cells [(V.d (D.int IntKind.i64 (0 : Int))), (V.d (D.str [])), (V.d (D.bool false))])], og := [] }) 12 [(2, bt), (3, .v (V.d (D.int IntKind.u8 (byteAt w (Int.toNat (↑i : Int)))))), (5, bf), (6, bf), (7, bf), (8, .v (V.d (D.int IntKind.u8 (byteAt w (Int.toNat (↑i : Int)))))), (9, bf), (11, bf), (12, bf), (13, .v (V.d (D.int IntKind.u8 (byteAt w (Int.toNat (↑i : Int)))))), (15, bf), (19, bf), (21, .v (V.d (D.int IntKind.u8 (byteAt w (Int.toNat (IntKind.wrap IntKind.i64 ((↑i : Int) + (1 : Int)))))))), (23, bf), (25, bf), (27, bf), (29, bt), (30, .v (V.d (D.str (s ++ [(92 : UInt8)]))))] (cP (@strAdd (s) ([(92 : UInt8)]) (by (first | assumption | (((try simp only [SA] at *); (try simp (disch := omega) only [SB, reduceCtorEq] at *)) <;> first | omega | assumption | (refine ⟨?_, ?_⟩ <;> assumption) | (refine ⟨?_, ?_, ?_⟩ <;> assumption) | (intros; assumption) | (right; right; assumption) | (right; left; assumption) | (left; assumption)))) (by (first | assumption | (((try simp only [SA] at *); (try simp (disch := omega) only [SB, reduceCtorEq] at *)) <;> first | omega | assumption | (refine ⟨?_, ?_⟩ <;> assumption) | (refine ⟨?_, ?_, ?_⟩ <;> assumption) | (intros; assumption) | (right; right; assumption) | (right; left; assumption) | (left; assumption))))) (cP h8 (cP h7 (cP h6 (cP h5 (cP (@indexStr (w) (IntKind.wrap IntKind.i64 ((↑i : Int) + (1 : Int))) (by (first | assumption | (((try simp only [SA] at *); (try simp (disch := omega) only [SB, reduceCtorEq] at *)) <;> first | omega | assumption | (refine ⟨?_, ?_⟩ <;> assumption) | (refine ⟨?_, ?_, ?_⟩ <;> assumption) | (intros; assumption) | (right; right; assumption) | (right; left; assumption) | (left; assumption)))) (by (first | assumption | (((try simp only [SA] at *); (try simp (disch := omega) only [SB, reduceCtorEq] at *)) <;> first | omega | assumption | (refine ⟨?_, ?_⟩ <;> assumption) | (refine ⟨?_, ?_, ?_⟩ <;> assumption) | (intros; assumption) | (right; right; assumption) | (right; left; assumption) | (left; assumption))))) (cP h4 (cP h3 (cP (@indexStr (w) ((↑i : Int)) (by (first | assumption | (((try simp only [SA] at *); (try simp (disch := omega) only [SB, reduceCtorEq] at *)) <;> first | omega | assumption | (refine ⟨?_, ?_⟩ <;> assumption) | (refine ⟨?_, ?_, ?_⟩ <;> assumption) | (intros; assumption) | (right; right; assumption) | (right; left; assumption) | (left; assumption)))) (by (first | assumption | (((try simp only [SA] at *); (try simp (disch := omega) only [SB, reduceCtorEq] at *)) <;> first | omega | assumption | (refine ⟨?_, ?_⟩ <;> assumption) | (refine ⟨?_, ?_, ?_⟩ <;> assumption) | (intros; assumption) | (right; right; assumption) | (right; left; assumption) | (left; assumption))))) (cP h2 (cP h1 (cP h1 (cP (@indexStr (w) ((↑i : Int)) (by (first | assumption | (((try simp only [SA] at *); (try simp (disch := omega) only [SB, reduceCtorEq] at *)) <;> first | omega | assumption | (refine ⟨?_, ?_⟩ <;> assumption) | (refine ⟨?_, ?_, ?_⟩ <;> assumption) | (intros; assumption) | (right; right; assumption) | (right; left; assumption) | (left; assumption)))) (by (first | assumption | (((try simp only [SA] at *); (try simp (disch := omega) only [SB, reduceCtorEq] at *)) <;> first | omega | assumption | (refine ⟨?_, ?_⟩ <;> assumption) | (refine ⟨?_, ?_, ?_⟩ <;> assumption) | (intros; assumption) | (right; right; assumption) | (right; left; assumption) | (left; assumption))))) (cP h1 (cP h1 (cP h1 (cP (@indexStr (w) ((↑i : Int)) (by (first | assumption | (((try simp only [SA] at *); (try simp (disch := omega) only [SB, reduceCtorEq] at *)) <;> first | omega | assumption | (refine ⟨?_, ?_⟩ <;> assumption) | (refine ⟨?_, ?_, ?_⟩ <;> assumption) | (intros; assumption) | (right; right; assumption) | (right; left; assumption) | (left; assumption)))) (by (first | assumption | (((try simp only [SA] at *); (try simp (disch := omega) only [SB, reduceCtorEq] at *)) <;> first | omega | assumption | (refine ⟨?_, ?_⟩ <;> assumption) | (refine ⟨?_, ?_, ?_⟩ <;> assumption) | (intros; assumption) | (right; right; assumption) | (right; left; assumption) | (left; assumption))))) (cP h0 nilE)))))))))))))))))) (by kernel_rfl)).to (by ((try simp (disch := omega) only [wrapId, sizeOne, sizeStr, List.length_cons, List.length_nil, wrapU8, toNatAdd, toNatSucc] at *) <;> (try simp only [Int.toNat_natCast, beq_iff_eq, beq_eq_false_iff_ne, bne_iff_ne, bne_eq_false_iff_eq, ne_eq, Int.natCast_eq_zero, Int.natCast_inj] at *) <;> first | (simp (disch := omega) [Ty.enc, wrapId, toNatPred, toNatAdd, toNatSucc, sizeOne, sizeStr, List.length_cons, List.length_nil, wrapU8, ltF, ltT, Ty.slD, *]; done) | (subst_vars; simp (disch := omega) [Ty.enc, wrapId, toNatPred, toNatAdd, toNatSucc, sizeOne, sizeStr, List.length_cons, List.length_nil, wrapU8, ltF, ltT, Ty.slD, *]; done)))
set_option maxHeartbeats 4000000 in
theorem rd9 : rd9_T := by
  intro w s i hw ho hi h1 h2 h3 h4 h5
  have h0 : (decide ((↑i : Int) < (↑(ByteArray.size { data := (List.toArray w) }) : Int))) = true := by (first | assumption | (((try simp only [SA] at *); (try simp (disch := omega) only [SB, reduceCtorEq] at *)) <;> first | omega | assumption | (refine ⟨?_, ?_⟩ <;> assumption) | (refine ⟨?_, ?_, ?_⟩ <;> assumption) | (intros; assumption) | (right; right; assumption) | (right; left; assumption) | (left; assumption)))
  have h1 : ((byteAt w (Int.toNat (↑i : Int))) == (9 : Int)) = false := by (first | assumption | (((try simp only [SA] at *); (try simp (disch := omega) only [SB, reduceCtorEq] at *)) <;> first | omega | assumption | (refine ⟨?_, ?_⟩ <;> assumption) | (refine ⟨?_, ?_, ?_⟩ <;> assumption) | (intros; assumption) | (right; right; assumption) | (right; left; assumption) | (left; assumption)))
  have h2 : ((byteAt w (Int.toNat (↑i : Int))) == (10 : Int)) = false := by (first | assumption | (((try simp only [SA] at *); (try simp (disch := omega) only [SB, reduceCtorEq] at *)) <;> first | omega | assumption | (refine ⟨?_, ?_⟩ <;> assumption) | (refine ⟨?_, ?_, ?_⟩ <;> assumption) | (intros; assumption) | (right; right; assumption) | (right; left; assumption) | (left; assumption)))
  have h3 : ((byteAt w (Int.toNat (↑i : Int))) != (92 : Int)) = false := by (first | assumption | (((try simp only [SA] at *); (try simp (disch := omega) only [SB, reduceCtorEq] at *)) <;> first | omega | assumption | (refine ⟨?_, ?_⟩ <;> assumption) | (refine ⟨?_, ?_, ?_⟩ <;> assumption) | (intros; assumption) | (right; right; assumption) | (right; left; assumption) | (left; assumption)))
  have h4 : ((IntKind.wrap IntKind.i64 ((↑i : Int) + (1 : Int))) == (↑(ByteArray.size { data := (List.toArray w) }) : Int)) = false := by (first | assumption | (((try simp only [SA] at *); (try simp (disch := omega) only [SB, reduceCtorEq] at *)) <;> first | omega | assumption | (refine ⟨?_, ?_⟩ <;> assumption) | (refine ⟨?_, ?_, ?_⟩ <;> assumption) | (intros; assumption) | (right; right; assumption) | (right; left; assumption) | (left; assumption)))
  have h5 : ((byteAt w (Int.toNat (IntKind.wrap IntKind.i64 ((↑i : Int) + (1 : Int))))) == (115 : Int)) = false := by (first | assumption | (((try simp only [SA] at *); (try simp (disch := omega) only [SB, reduceCtorEq] at *)) <;> first | omega | assumption | (refine ⟨?_, ?_⟩ <;> assumption) | (refine ⟨?_, ?_, ?_⟩ <;> assumption) | (intros; assumption) | (right; right; assumption) | (right; left; assumption) | (left; assumption)))
  have h6 : ((byteAt w (Int.toNat (IntKind.wrap IntKind.i64 ((↑i : Int) + (1 : Int))))) == (110 : Int)) = false := by (first | assumption | (((try simp only [SA] at *); (try simp (disch := omega) only [SB, reduceCtorEq] at *)) <;> first | omega | assumption | (refine ⟨?_, ?_⟩ <;> assumption) | (refine ⟨?_, ?_, ?_⟩ <;> assumption) | (intros; assumption) | (right; right; assumption) | (right; left; assumption) | (left; assumption)))
  have h7 : ((byteAt w (Int.toNat (IntKind.wrap IntKind.i64 ((↑i : Int) + (1 : Int))))) == (116 : Int)) = false := by (first | assumption | (((try simp only [SA] at *); (try simp (disch := omega) only [SB, reduceCtorEq] at *)) <;> first | omega | assumption | (refine ⟨?_, ?_⟩ <;> assumption) | (refine ⟨?_, ?_, ?_⟩ <;> assumption) | (intros; assumption) | (right; right; assumption) | (right; left; assumption) | (left; assumption)))
  have h8 : ((byteAt w (Int.toNat (IntKind.wrap IntKind.i64 ((↑i : Int) + (1 : Int))))) == (92 : Int)) = false := by (first | assumption | (((try simp only [SA] at *); (try simp (disch := omega) only [SB, reduceCtorEq] at *)) <;> first | omega | assumption | (refine ⟨?_, ?_⟩ <;> assumption) | (refine ⟨?_, ?_, ?_⟩ <;> assumption) | (intros; assumption) | (right; right; assumption) | (right; left; assumption) | (left; assumption)))
  exact pR 12 [(2, bt), (3, .v (V.d (D.int IntKind.u8 (byteAt w (Int.toNat (↑i : Int)))))), (5, bf), (6, bf), (7, bf), (8, .v (V.d (D.int IntKind.u8 (byteAt w (Int.toNat (↑i : Int)))))), (9, bf), (11, bf), (12, bf), (13, .v (V.d (D.int IntKind.u8 (byteAt w (Int.toNat (↑i : Int)))))), (15, bf), (19, bf), (21, .v (V.d (D.int IntKind.u8 (byteAt w (Int.toNat (IntKind.wrap IntKind.i64 ((↑i : Int) + (1 : Int)))))))), (23, bf), (25, bf), (27, bf), (29, bf)] (cP h8 (cP h7 (cP h6 (cP h5 (cP (@indexStr (w) (IntKind.wrap IntKind.i64 ((↑i : Int) + (1 : Int))) (by (first | assumption | (((try simp only [SA] at *); (try simp (disch := omega) only [SB, reduceCtorEq] at *)) <;> first | omega | assumption | (refine ⟨?_, ?_⟩ <;> assumption) | (refine ⟨?_, ?_, ?_⟩ <;> assumption) | (intros; assumption) | (right; right; assumption) | (right; left; assumption) | (left; assumption)))) (by (first | assumption | (((try simp only [SA] at *); (try simp (disch := omega) only [SB, reduceCtorEq] at *)) <;> first | omega | assumption | (refine ⟨?_, ?_⟩ <;> assumption) | (refine ⟨?_, ?_, ?_⟩ <;> assumption) | (intros; assumption) | (right; right; assumption) | (right; left; assumption) | (left; assumption))))) (cP h4 (cP h3 (cP (@indexStr (w) ((↑i : Int)) (by (first | assumption | (((try simp only [SA] at *); (try simp (disch := omega) only [SB, reduceCtorEq] at *)) <;> first | omega | assumption | (refine ⟨?_, ?_⟩ <;> assumption) | (refine ⟨?_, ?_, ?_⟩ <;> assumption) | (intros; assumption) | (right; right; assumption) | (right; left; assumption) | (left; assumption)))) (by (first | assumption | (((try simp only [SA] at *); (try simp (disch := omega) only [SB, reduceCtorEq] at *)) <;> first | omega | assumption | (refine ⟨?_, ?_⟩ <;> assumption) | (refine ⟨?_, ?_, ?_⟩ <;> assumption) | (intros; assumption) | (right; right; assumption) | (right; left; assumption) | (left; assumption))))) (cP h2 (cP h1 (cP h1 (cP (@indexStr (w) ((↑i : Int)) (by (first | assumption | (((try simp only [SA] at *); (try simp (disch := omega) only [SB, reduceCtorEq] at *)) <;> first | omega | assumption | (refine ⟨?_, ?_⟩ <;> assumption) | (refine ⟨?_, ?_, ?_⟩ <;> assumption) | (intros; assumption) | (right; right; assumption) | (right; left; assumption) | (left; assumption)))) (by (first | assumption | (((try simp only [SA] at *); (try simp (disch := omega) only [SB, reduceCtorEq] at *)) <;> first | omega | assumption | (refine ⟨?_, ?_⟩ <;> assumption) | (refine ⟨?_, ?_, ?_⟩ <;> assumption) | (intros; assumption) | (right; right; assumption) | (right; left; assumption) | (left; assumption))))) (cP h1 (cP h1 (cP h1 (cP (@indexStr (w) ((↑i : Int)) (by (first | assumption | (((try simp only [SA] at *); (try simp (disch := omega) only [SB, reduceCtorEq] at *)) <;> first | omega | assumption | (refine ⟨?_, ?_⟩ <;> assumption) | (refine ⟨?_, ?_, ?_⟩ <;> assumption) | (intros; assumption) | (right; right; assumption) | (right; left; assumption) | (left; assumption)))) (by (first | assumption | (((try simp only [SA] at *); (try simp (disch := omega) only [SB, reduceCtorEq] at *)) <;> first | omega | assumption | (refine ⟨?_, ?_⟩ <;> assumption) | (refine ⟨?_, ?_, ?_⟩ <;> assumption) | (intros; assumption) | (right; right; assumption) | (right; left; assumption) | (left; assumption))))) (cP h0 nilE))))))))))))))))) (by kernel_rfl)
set_option maxHeartbeats 4000000 in
theorem rd0 : rd0_T := by
  intro w s i hi h2
  have h0 : (decide ((↑i : Int) < (↑(ByteArray.size { data := (List.toArray w) }) : Int))) = false := by (first | assumption | (((try simp only [SA] at *); (try simp (disch := omega) only [SB, reduceCtorEq] at *)) <;> first | omega | assumption | (refine ⟨?_, ?_⟩ <;> assumption) | (refine ⟨?_, ?_, ?_⟩ <;> assumption) | (intros; assumption) | (right; right; assumption) | (right; left; assumption) | (left; assumption)))
  exact (pR (r := ((Ex.exit (nat_lit 0)), { s := [((nat_lit 0), (V.d (D.str w))), ((nat_lit 2), (V.obj (nat_lit 0) (nat_lit 0))), ((nat_lit 3), (V.d (D.str s))), ((nat_lit 4), (V.d (D.int IntKind.i64 (↑i : Int)))), ((nat_lit 11), (V.d (D.bool (decide ((↑i : Int) < (↑(ByteArray.size { data := (List.toArray w) }) : Int))))))], h := [(Ob.cells [(V.d (D.int IntKind.i64 (0 : Int))), (V.d (D.str [])), (V.d (D.bool false))])], og := [] })) 12 [(2, bf)] (cP h0 nilE) (by kernel_rfl)).to (by ((try simp (disch := omega) only [wrapId, sizeOne, sizeStr, List.length_cons, List.length_nil, wrapU8, toNatAdd, toNatSucc] at *) <;> (try simp only [Int.toNat_natCast, beq_iff_eq, beq_eq_false_iff_ne, bne_iff_ne, bne_eq_false_iff_eq, ne_eq, Int.natCast_eq_zero, Int.natCast_inj] at *) <;> first | (simp (disch := omega) [Ty.enc, wrapId, toNatPred, toNatAdd, toNatSucc, sizeOne, sizeStr, List.length_cons, List.length_nil, wrapU8, ltF, ltT, Ty.slD, *]; done) | (subst_vars; simp (disch := omega) [Ty.enc, wrapId, toNatPred, toNatAdd, toNatSucc, sizeOne, sizeStr, List.length_cons, List.length_nil, wrapU8, ltF, ltT, Ty.slD, *]; done)))
set_option maxHeartbeats 4000000 in
theorem rw1 : rw1_T := by
  intro s out w i hs ho hw hi h
  have h0 : (decide ((↑i : Int) < (↑(ByteArray.size { data := (List.toArray s) }) : Int))) = true := by (first | assumption | (((try simp only [SA] at *); (try simp (disch := omega) only [SB, reduceCtorEq] at *)) <;> first | omega | assumption | (refine ⟨?_, ?_⟩ <;> assumption) | (refine ⟨?_, ?_, ?_⟩ <;> assumption) | (intros; assumption) | (right; right; assumption) | (right; left; assumption) | (left; assumption)))
  have h1 : ((byteAt s (Int.toNat (↑i : Int))) == (32 : Int)) = true := by (first | assumption | (((try simp only [SA] at *); (try simp (disch := omega) only [SB, reduceCtorEq] at *)) <;> first | omega | assumption | (refine ⟨?_, ?_⟩ <;> assumption) | (refine ⟨?_, ?_, ?_⟩ <;> assumption) | (intros; assumption) | (right; right; assumption) | (right; left; assumption) | (left; assumption)))
  exact (pC (st' := { s := [((nat_lit 0), (V.d (D.str s))), ((nat_lit 3), (V.tail (nat_lit 9) (List.flatMap (Ty.enc strT) (out ++ [w])) (List.length (out ++ [w])))), ((nat_lit 4), (V.d (D.str []))), ((nat_lit 5), (V.d (D.int IntKind.i64 (IntKind.wrap IntKind.i64 ((↑i : Int) + (1 : Int))))))], h := [], og := [] }) 12 [(2, bt), (3, .v (V.d (D.int IntKind.u8 (byteAt s (Int.toNat (↑i : Int)))))), (5, bt), (6, .v (Ty.tailV strT (9 : TypeId) (out ++ [w])))] (cP (@appendStr (out) (w) ho) (cP h1 (cP (@indexStr (s) ((↑i : Int)) (by (first | assumption | (((try simp only [SA] at *); (try simp (disch := omega) only [SB, reduceCtorEq] at *)) <;> first | omega | assumption | (refine ⟨?_, ?_⟩ <;> assumption) | (refine ⟨?_, ?_, ?_⟩ <;> assumption) | (intros; assumption) | (right; right; assumption) | (right; left; assumption) | (left; assumption)))) (by (first | assumption | (((try simp only [SA] at *); (try simp (disch := omega) only [SB, reduceCtorEq] at *)) <;> first | omega | assumption | (refine ⟨?_, ?_⟩ <;> assumption) | (refine ⟨?_, ?_, ?_⟩ <;> assumption) | (intros; assumption) | (right; right; assumption) | (right; left; assumption) | (left; assumption))))) (cP h0 nilE)))) (by kernel_rfl)).to (by ((try simp (disch := omega) only [wrapId, sizeOne, sizeStr, List.length_cons, List.length_nil, wrapU8, toNatAdd, toNatSucc] at *) <;> (try simp only [Int.toNat_natCast, beq_iff_eq, beq_eq_false_iff_ne, bne_iff_ne, bne_eq_false_iff_eq, ne_eq, Int.natCast_eq_zero, Int.natCast_inj] at *) <;> first | (simp (disch := omega) [Ty.enc, wrapId, toNatPred, toNatAdd, toNatSucc, sizeOne, sizeStr, List.length_cons, List.length_nil, wrapU8, ltF, ltT, Ty.slD, *]; done) | (subst_vars; simp (disch := omega) [Ty.enc, wrapId, toNatPred, toNatAdd, toNatSucc, sizeOne, sizeStr, List.length_cons, List.length_nil, wrapU8, ltF, ltT, Ty.slD, *]; done)))
set_option maxHeartbeats 4000000 in
theorem rw2 : rw2_T := by
  intro s out w i hs ho hw hi h
  have h0 : (decide ((↑i : Int) < (↑(ByteArray.size { data := (List.toArray s) }) : Int))) = true := by (first | assumption | (((try simp only [SA] at *); (try simp (disch := omega) only [SB, reduceCtorEq] at *)) <;> first | omega | assumption | (refine ⟨?_, ?_⟩ <;> assumption) | (refine ⟨?_, ?_, ?_⟩ <;> assumption) | (intros; assumption) | (right; right; assumption) | (right; left; assumption) | (left; assumption)))
  have h1 : ((byteAt s (Int.toNat (↑i : Int))) == (32 : Int)) = false := by (first | assumption | (((try simp only [SA] at *); (try simp (disch := omega) only [SB, reduceCtorEq] at *)) <;> first | omega | assumption | (refine ⟨?_, ?_⟩ <;> assumption) | (refine ⟨?_, ?_, ?_⟩ <;> assumption) | (intros; assumption) | (right; right; assumption) | (right; left; assumption) | (left; assumption)))
  exact (pC (st' := { s := [((nat_lit 0), (V.d (D.str s))), ((nat_lit 3), (V.tail (nat_lit 9) (List.flatMap (Ty.enc strT) out) (List.length out))), ((nat_lit 4), (V.d (D.str (w ++ [((fun (n : Int) => (UInt8.ofNat (Int.toNat n))) (byteAt s (Int.toNat (↑i : Int))))])))), ((nat_lit 5), (V.d (D.int IntKind.i64 (IntKind.wrap IntKind.i64 ((↑i : Int) + (1 : Int))))))], h := [], og := [] }) 12 [(2, bt), (3, .v (V.d (D.int IntKind.u8 (byteAt s (Int.toNat (↑i : Int)))))), (5, bf), (7, .v (V.d (D.str (toBs [(byteAt s (Int.toNat (↑i : Int)))])))), (8, .v (V.d (D.str (w ++ [((fun (n : Int) => (UInt8.ofNat (Int.toNat n))) (byteAt s (Int.toNat (↑i : Int))))]))))] (cP (@strAdd (w) ([((fun (n : Int) => (UInt8.ofNat (Int.toNat n))) (byteAt s (Int.toNat (↑i : Int))))]) (by (first | assumption | (((try simp only [SA] at *); (try simp (disch := omega) only [SB, reduceCtorEq] at *)) <;> first | omega | assumption | (refine ⟨?_, ?_⟩ <;> assumption) | (refine ⟨?_, ?_, ?_⟩ <;> assumption) | (intros; assumption) | (right; right; assumption) | (right; left; assumption) | (left; assumption)))) (by (first | assumption | (((try simp only [SA] at *); (try simp (disch := omega) only [SB, reduceCtorEq] at *)) <;> first | omega | assumption | (refine ⟨?_, ?_⟩ <;> assumption) | (refine ⟨?_, ?_, ?_⟩ <;> assumption) | (intros; assumption) | (right; right; assumption) | (right; left; assumption) | (left; assumption))))) (cP (@sliceAt (s) ((↑i : Int)) (IntKind.wrap IntKind.i64 ((↑i : Int) + (1 : Int))) (by (first | assumption | (((try simp only [SA] at *); (try simp (disch := omega) only [SB, reduceCtorEq] at *)) <;> first | omega | assumption | (refine ⟨?_, ?_⟩ <;> assumption) | (refine ⟨?_, ?_, ?_⟩ <;> assumption) | (intros; assumption) | (right; right; assumption) | (right; left; assumption) | (left; assumption)))) (by (first | assumption | (((try simp only [SA] at *); (try simp (disch := omega) only [SB, reduceCtorEq] at *)) <;> first | omega | assumption | (refine ⟨?_, ?_⟩ <;> assumption) | (refine ⟨?_, ?_, ?_⟩ <;> assumption) | (intros; assumption) | (right; right; assumption) | (right; left; assumption) | (left; assumption)))) (by (first | assumption | (((try simp only [SA] at *); (try simp (disch := omega) only [SB, reduceCtorEq] at *)) <;> first | omega | assumption | (refine ⟨?_, ?_⟩ <;> assumption) | (refine ⟨?_, ?_, ?_⟩ <;> assumption) | (intros; assumption) | (right; right; assumption) | (right; left; assumption) | (left; assumption))))) (cP h1 (cP (@indexStr (s) ((↑i : Int)) (by (first | assumption | (((try simp only [SA] at *); (try simp (disch := omega) only [SB, reduceCtorEq] at *)) <;> first | omega | assumption | (refine ⟨?_, ?_⟩ <;> assumption) | (refine ⟨?_, ?_, ?_⟩ <;> assumption) | (intros; assumption) | (right; right; assumption) | (right; left; assumption) | (left; assumption)))) (by (first | assumption | (((try simp only [SA] at *); (try simp (disch := omega) only [SB, reduceCtorEq] at *)) <;> first | omega | assumption | (refine ⟨?_, ?_⟩ <;> assumption) | (refine ⟨?_, ?_, ?_⟩ <;> assumption) | (intros; assumption) | (right; right; assumption) | (right; left; assumption) | (left; assumption))))) (cP h0 nilE))))) (by kernel_rfl)).to (by ((try simp (disch := omega) only [wrapId, sizeOne, sizeStr, List.length_cons, List.length_nil, wrapU8, toNatAdd, toNatSucc] at *) <;> (try simp only [Int.toNat_natCast, beq_iff_eq, beq_eq_false_iff_ne, bne_iff_ne, bne_eq_false_iff_eq, ne_eq, Int.natCast_eq_zero, Int.natCast_inj] at *) <;> first | (simp (disch := omega) [Ty.enc, wrapId, toNatPred, toNatAdd, toNatSucc, sizeOne, sizeStr, List.length_cons, List.length_nil, wrapU8, ltF, ltT, Ty.slD, *]; done) | (subst_vars; simp (disch := omega) [Ty.enc, wrapId, toNatPred, toNatAdd, toNatSucc, sizeOne, sizeStr, List.length_cons, List.length_nil, wrapU8, ltF, ltT, Ty.slD, *]; done)))
set_option maxHeartbeats 4000000 in
theorem rw3 : rw3_T := by
  intro s out w i hs h2
  have h0 : (decide ((↑i : Int) < (↑(ByteArray.size { data := (List.toArray s) }) : Int))) = false := by (first | assumption | (((try simp only [SA] at *); (try simp (disch := omega) only [SB, reduceCtorEq] at *)) <;> first | omega | assumption | (refine ⟨?_, ?_⟩ <;> assumption) | (refine ⟨?_, ?_, ?_⟩ <;> assumption) | (intros; assumption) | (right; right; assumption) | (right; left; assumption) | (left; assumption)))
  exact (pR (r := ((Ex.exit (nat_lit 0)), { s := [((nat_lit 0), (V.d (D.str s))), ((nat_lit 3), (V.tail (nat_lit 9) (List.flatMap (Ty.enc strT) out) (List.length out))), ((nat_lit 4), (V.d (D.str w))), ((nat_lit 5), (V.d (D.int IntKind.i64 (↑i : Int)))), ((nat_lit 9), (V.d (D.bool (decide ((↑i : Int) < (↑(ByteArray.size { data := (List.toArray s) }) : Int))))))], h := [], og := [] })) 12 [(2, bf)] (cP h0 nilE) (by kernel_rfl)).to (by ((try simp (disch := omega) only [wrapId, sizeOne, sizeStr, List.length_cons, List.length_nil, wrapU8, toNatAdd, toNatSucc] at *) <;> (try simp only [Int.toNat_natCast, beq_iff_eq, beq_eq_false_iff_ne, bne_iff_ne, bne_eq_false_iff_eq, ne_eq, Int.natCast_eq_zero, Int.natCast_inj] at *) <;> first | (simp (disch := omega) [Ty.enc, wrapId, toNatPred, toNatAdd, toNatSucc, sizeOne, sizeStr, List.length_cons, List.length_nil, wrapU8, ltF, ltT, Ty.slD, *]; done) | (subst_vars; simp (disch := omega) [Ty.enc, wrapId, toNatPred, toNatAdd, toNatSucc, sizeOne, sizeStr, List.length_cons, List.length_nil, wrapU8, ltF, ltT, Ty.slD, *]; done)))
set_option maxHeartbeats 4000000 in
theorem rl1 : rl1_T := by
  intro s out w i hs ho hw hi h
  have h0 : (decide ((↑i : Int) < (↑(ByteArray.size { data := (List.toArray s) }) : Int))) = true := by (first | assumption | (((try simp only [SA] at *); (try simp (disch := omega) only [SB, reduceCtorEq] at *)) <;> first | omega | assumption | (refine ⟨?_, ?_⟩ <;> assumption) | (refine ⟨?_, ?_, ?_⟩ <;> assumption) | (intros; assumption) | (right; right; assumption) | (right; left; assumption) | (left; assumption)))
  have h1 : ((byteAt s (Int.toNat (↑i : Int))) == (10 : Int)) = true := by (first | assumption | (((try simp only [SA] at *); (try simp (disch := omega) only [SB, reduceCtorEq] at *)) <;> first | omega | assumption | (refine ⟨?_, ?_⟩ <;> assumption) | (refine ⟨?_, ?_, ?_⟩ <;> assumption) | (intros; assumption) | (right; right; assumption) | (right; left; assumption) | (left; assumption)))
  exact (pC (st' := { s := [((nat_lit 0), (V.d (D.str s))), ((nat_lit 3), (V.tail (nat_lit 9) (List.flatMap (Ty.enc strT) (out ++ [w])) (List.length (out ++ [w])))), ((nat_lit 4), (V.d (D.str []))), ((nat_lit 5), (V.d (D.int IntKind.i64 (IntKind.wrap IntKind.i64 ((↑i : Int) + (1 : Int))))))], h := [], og := [] }) 12 [(2, bt), (3, .v (V.d (D.int IntKind.u8 (byteAt s (Int.toNat (↑i : Int)))))), (5, bt), (6, .v (Ty.tailV strT (9 : TypeId) (out ++ [w])))] (cP (@appendStr (out) (w) ho) (cP h1 (cP (@indexStr (s) ((↑i : Int)) (by (first | assumption | (((try simp only [SA] at *); (try simp (disch := omega) only [SB, reduceCtorEq] at *)) <;> first | omega | assumption | (refine ⟨?_, ?_⟩ <;> assumption) | (refine ⟨?_, ?_, ?_⟩ <;> assumption) | (intros; assumption) | (right; right; assumption) | (right; left; assumption) | (left; assumption)))) (by (first | assumption | (((try simp only [SA] at *); (try simp (disch := omega) only [SB, reduceCtorEq] at *)) <;> first | omega | assumption | (refine ⟨?_, ?_⟩ <;> assumption) | (refine ⟨?_, ?_, ?_⟩ <;> assumption) | (intros; assumption) | (right; right; assumption) | (right; left; assumption) | (left; assumption))))) (cP h0 nilE)))) (by kernel_rfl)).to (by ((try simp (disch := omega) only [wrapId, sizeOne, sizeStr, List.length_cons, List.length_nil, wrapU8, toNatAdd, toNatSucc] at *) <;> (try simp only [Int.toNat_natCast, beq_iff_eq, beq_eq_false_iff_ne, bne_iff_ne, bne_eq_false_iff_eq, ne_eq, Int.natCast_eq_zero, Int.natCast_inj] at *) <;> first | (simp (disch := omega) [Ty.enc, wrapId, toNatPred, toNatAdd, toNatSucc, sizeOne, sizeStr, List.length_cons, List.length_nil, wrapU8, ltF, ltT, Ty.slD, *]; done) | (subst_vars; simp (disch := omega) [Ty.enc, wrapId, toNatPred, toNatAdd, toNatSucc, sizeOne, sizeStr, List.length_cons, List.length_nil, wrapU8, ltF, ltT, Ty.slD, *]; done)))
set_option maxHeartbeats 4000000 in
theorem rl2 : rl2_T := by
  intro s out w i hs ho hw hi h
  have h0 : (decide ((↑i : Int) < (↑(ByteArray.size { data := (List.toArray s) }) : Int))) = true := by (first | assumption | (((try simp only [SA] at *); (try simp (disch := omega) only [SB, reduceCtorEq] at *)) <;> first | omega | assumption | (refine ⟨?_, ?_⟩ <;> assumption) | (refine ⟨?_, ?_, ?_⟩ <;> assumption) | (intros; assumption) | (right; right; assumption) | (right; left; assumption) | (left; assumption)))
  have h1 : ((byteAt s (Int.toNat (↑i : Int))) == (10 : Int)) = false := by (first | assumption | (((try simp only [SA] at *); (try simp (disch := omega) only [SB, reduceCtorEq] at *)) <;> first | omega | assumption | (refine ⟨?_, ?_⟩ <;> assumption) | (refine ⟨?_, ?_, ?_⟩ <;> assumption) | (intros; assumption) | (right; right; assumption) | (right; left; assumption) | (left; assumption)))
  exact (pC (st' := { s := [((nat_lit 0), (V.d (D.str s))), ((nat_lit 3), (V.tail (nat_lit 9) (List.flatMap (Ty.enc strT) out) (List.length out))), ((nat_lit 4), (V.d (D.str (w ++ [((fun (n : Int) => (UInt8.ofNat (Int.toNat n))) (byteAt s (Int.toNat (↑i : Int))))])))), ((nat_lit 5), (V.d (D.int IntKind.i64 (IntKind.wrap IntKind.i64 ((↑i : Int) + (1 : Int))))))], h := [], og := [] }) 12 [(2, bt), (3, .v (V.d (D.int IntKind.u8 (byteAt s (Int.toNat (↑i : Int)))))), (5, bf), (7, .v (V.d (D.str (toBs [(byteAt s (Int.toNat (↑i : Int)))])))), (8, .v (V.d (D.str (w ++ [((fun (n : Int) => (UInt8.ofNat (Int.toNat n))) (byteAt s (Int.toNat (↑i : Int))))]))))] (cP (@strAdd (w) ([((fun (n : Int) => (UInt8.ofNat (Int.toNat n))) (byteAt s (Int.toNat (↑i : Int))))]) (by (first | assumption | (((try simp only [SA] at *); (try simp (disch := omega) only [SB, reduceCtorEq] at *)) <;> first | omega | assumption | (refine ⟨?_, ?_⟩ <;> assumption) | (refine ⟨?_, ?_, ?_⟩ <;> assumption) | (intros; assumption) | (right; right; assumption) | (right; left; assumption) | (left; assumption)))) (by (first | assumption | (((try simp only [SA] at *); (try simp (disch := omega) only [SB, reduceCtorEq] at *)) <;> first | omega | assumption | (refine ⟨?_, ?_⟩ <;> assumption) | (refine ⟨?_, ?_, ?_⟩ <;> assumption) | (intros; assumption) | (right; right; assumption) | (right; left; assumption) | (left; assumption))))) (cP (@sliceAt (s) ((↑i : Int)) (IntKind.wrap IntKind.i64 ((↑i : Int) + (1 : Int))) (by (first | assumption | (((try simp only [SA] at *); (try simp (disch := omega) only [SB, reduceCtorEq] at *)) <;> first | omega | assumption | (refine ⟨?_, ?_⟩ <;> assumption) | (refine ⟨?_, ?_, ?_⟩ <;> assumption) | (intros; assumption) | (right; right; assumption) | (right; left; assumption) | (left; assumption)))) (by (first | assumption | (((try simp only [SA] at *); (try simp (disch := omega) only [SB, reduceCtorEq] at *)) <;> first | omega | assumption | (refine ⟨?_, ?_⟩ <;> assumption) | (refine ⟨?_, ?_, ?_⟩ <;> assumption) | (intros; assumption) | (right; right; assumption) | (right; left; assumption) | (left; assumption)))) (by (first | assumption | (((try simp only [SA] at *); (try simp (disch := omega) only [SB, reduceCtorEq] at *)) <;> first | omega | assumption | (refine ⟨?_, ?_⟩ <;> assumption) | (refine ⟨?_, ?_, ?_⟩ <;> assumption) | (intros; assumption) | (right; right; assumption) | (right; left; assumption) | (left; assumption))))) (cP h1 (cP (@indexStr (s) ((↑i : Int)) (by (first | assumption | (((try simp only [SA] at *); (try simp (disch := omega) only [SB, reduceCtorEq] at *)) <;> first | omega | assumption | (refine ⟨?_, ?_⟩ <;> assumption) | (refine ⟨?_, ?_, ?_⟩ <;> assumption) | (intros; assumption) | (right; right; assumption) | (right; left; assumption) | (left; assumption)))) (by (first | assumption | (((try simp only [SA] at *); (try simp (disch := omega) only [SB, reduceCtorEq] at *)) <;> first | omega | assumption | (refine ⟨?_, ?_⟩ <;> assumption) | (refine ⟨?_, ?_, ?_⟩ <;> assumption) | (intros; assumption) | (right; right; assumption) | (right; left; assumption) | (left; assumption))))) (cP h0 nilE))))) (by kernel_rfl)).to (by ((try simp (disch := omega) only [wrapId, sizeOne, sizeStr, List.length_cons, List.length_nil, wrapU8, toNatAdd, toNatSucc] at *) <;> (try simp only [Int.toNat_natCast, beq_iff_eq, beq_eq_false_iff_ne, bne_iff_ne, bne_eq_false_iff_eq, ne_eq, Int.natCast_eq_zero, Int.natCast_inj] at *) <;> first | (simp (disch := omega) [Ty.enc, wrapId, toNatPred, toNatAdd, toNatSucc, sizeOne, sizeStr, List.length_cons, List.length_nil, wrapU8, ltF, ltT, Ty.slD, *]; done) | (subst_vars; simp (disch := omega) [Ty.enc, wrapId, toNatPred, toNatAdd, toNatSucc, sizeOne, sizeStr, List.length_cons, List.length_nil, wrapU8, ltF, ltT, Ty.slD, *]; done)))
set_option maxHeartbeats 4000000 in
theorem rl3 : rl3_T := by
  intro s out w i hs h2
  have h0 : (decide ((↑i : Int) < (↑(ByteArray.size { data := (List.toArray s) }) : Int))) = false := by (first | assumption | (((try simp only [SA] at *); (try simp (disch := omega) only [SB, reduceCtorEq] at *)) <;> first | omega | assumption | (refine ⟨?_, ?_⟩ <;> assumption) | (refine ⟨?_, ?_, ?_⟩ <;> assumption) | (intros; assumption) | (right; right; assumption) | (right; left; assumption) | (left; assumption)))
  exact (pR (r := ((Ex.exit (nat_lit 0)), { s := [((nat_lit 0), (V.d (D.str s))), ((nat_lit 3), (V.tail (nat_lit 9) (List.flatMap (Ty.enc strT) out) (List.length out))), ((nat_lit 4), (V.d (D.str w))), ((nat_lit 5), (V.d (D.int IntKind.i64 (↑i : Int)))), ((nat_lit 9), (V.d (D.bool (decide ((↑i : Int) < (↑(ByteArray.size { data := (List.toArray s) }) : Int))))))], h := [], og := [] })) 12 [(2, bf)] (cP h0 nilE) (by kernel_rfl)).to (by ((try simp (disch := omega) only [wrapId, sizeOne, sizeStr, List.length_cons, List.length_nil, wrapU8, toNatAdd, toNatSucc] at *) <;> (try simp only [Int.toNat_natCast, beq_iff_eq, beq_eq_false_iff_ne, bne_iff_ne, bne_eq_false_iff_eq, ne_eq, Int.natCast_eq_zero, Int.natCast_inj] at *) <;> first | (simp (disch := omega) [Ty.enc, wrapId, toNatPred, toNatAdd, toNatSucc, sizeOne, sizeStr, List.length_cons, List.length_nil, wrapU8, ltF, ltT, Ty.slD, *]; done) | (subst_vars; simp (disch := omega) [Ty.enc, wrapId, toNatPred, toNatAdd, toNatSucc, sizeOne, sizeStr, List.length_cons, List.length_nil, wrapU8, ltF, ltT, Ty.slD, *]; done)))
end Go.Proofs.YtgiahagbmgnmkaaDoor.Script
/- Script: the reference's Number, Told, Words, Lines: loops; their statements. -/
set_option linter.unusedVariables false
set_option linter.unusedSimpArgs false
namespace Go.Proofs.YtgiahagbmgnmkaaDoor.Script
open Go Pv G
theorem rqYesC (w : Str) (sg : Int) (hw : w.length ≤ 12) : ∀ f i n r k, numF w f i n = some r → f + i = w.length → f < k → 0 ≤ n → n < 10 ^ i → LpC X0 0 (ntOf X0 FQ) (lpKeep X0 FQ 0) (lpBody X0 FQ 0) 1 k (stQ w sg n i) (.exit 0, stQx w sg r w.length) := by
  intro f
  induction f with
  | zero =>
    intro i n r k h hi hm h0 hn
    simp [numF] at h
    subst h
    obtain rfl : i = w.length := by omega
    exact LpC.last (rq4 w sg n w.length hw (by omega) (by omega)) (by simp)
  | succ f ih =>
    intro i n r k h hi hm h0 hn
    obtain ⟨k, rfl⟩ : ∃ x, k = x + 1 := ⟨k - 1, by omega⟩
    simp only [numF] at h
    split at h
    · rename_i hd
      have hp : (10 : Int) ^ i ≤ 10 ^ 12 := by
        have : i ≤ 12 := by omega
        exact_mod_cast Nat.pow_le_pow_right (by decide : 0 < 10) this
      have e12 : (10 : Int) ^ 12 = 1000000000000 := by decide
      have hs : (10 : Int) ^ (i + 1) = 10 ^ i * 10 := Int.pow_succ 10 i
      have e : 10 * n + (byteAt w i - 48) = 10 * n + byteAt w i - 48 := by omega
      rw [e] at h
      exact LpC.next (rq1 w sg n i hw (by omega) h0 (by omega) hd.1 hd.2) (ih (i + 1) _ r k h (by omega) (by omega) (by omega) (by omega))
    · cases h
theorem rqNoC (w : Str) (sg : Int) (hw : w.length ≤ 12) : ∀ f i n k, numF w f i n = none → f + i = w.length → f < k → 0 ≤ n → n < 10 ^ i → LpC X0 0 (ntOf X0 FQ) (lpKeep X0 FQ 0) (lpBody X0 FQ 0) 1 k (stQ w sg n i) (.ret, stQr) := by
  intro f
  induction f with
  | zero => intro i n k h; simp [numF] at h
  | succ f ih =>
    intro i n k h hi hm h0 hn
    obtain ⟨k, rfl⟩ : ∃ x, k = x + 1 := ⟨k - 1, by omega⟩
    simp only [numF] at h
    have hp : (10 : Int) ^ i ≤ 10 ^ 12 := by
      have : i ≤ 12 := by omega
      exact_mod_cast Nat.pow_le_pow_right (by decide : 0 < 10) this
    have e12 : (10 : Int) ^ 12 = 1000000000000 := by decide
    have hs : (10 : Int) ^ (i + 1) = 10 ^ i * 10 := Int.pow_succ 10 i
    split at h
    · rename_i hd
      have e : 10 * n + (byteAt w i - 48) = 10 * n + byteAt w i - 48 := by omega
      rw [e] at h
      exact LpC.next (rq1 w sg n i hw (by omega) h0 (by omega) hd.1 hd.2) (ih (i + 1) _ k h (by omega) (by omega) (by omega) (by omega))
    · rename_i hd
      by_cases h48 : byteAt w i < 48
      · exact LpC.last (rq2 w sg n i hw (by omega) h48) (by simp)
      · exact LpC.last (rq3 w sg n i hw (by omega) (by omega)) (by simp)
def rqYesL_T : Prop := ∀ (w : Str) (sg : Int) (hw : w.length ≤ 12) (h : numOk w = true), Lp X0 0 (ntOf X0 FQ) (lpKeep X0 FQ 0) (lpBody X0 FQ 0) 1 FUEL (stQ w sg 0 0) (.exit 0, stQx w sg (numR w) w.length)
theorem rqYesL : rqYesL_T := fun w sg hw h => by
  obtain ⟨r, hr⟩ := Option.isSome_iff_exists.1 h
  have e : numR w = r := by unfold numR; rw [hr]; rfl
  rw [e]
  exact LpC.start (m := 1152921504606846975) (rqYesC w sg hw w.length 0 0 r _ hr (by omega) (by omega) (by omega) (by simp)) (by kernel_rfl)
def rqNoL_T : Prop := ∀ (w : Str) (sg : Int) (hw : w.length ≤ 12) (h : numOk w = false), Lp X0 0 (ntOf X0 FQ) (lpKeep X0 FQ 0) (lpBody X0 FQ 0) 1 FUEL (stQ w sg 0 0) (.ret, stQr)
theorem rqNoL : rqNoL_T := fun w sg hw h => LpC.start (m := 1152921504606846975) (rqNoC w sg hw w.length 0 0 _ (show numOf w = none from Option.not_isSome_iff_eq_none.1 (by show ¬ numOk w = true; rw [h]; simp)) (by omega) (by omega) (by omega) (by simp)) (by kernel_rfl)
def rb1_T : Prop := ∀ (w : Str) (hl : w.length = 0), Ans X0 FQ [.d (.str w)] (.d (valD 0 [] false))
def sliceOneE_T : Prop := ∀ (s v : Str) (h2 : 1 ≤ s.length) (e : s.drop 1 = v), sliceV X0 9 (.d (.str s)) (some (.d (.int .i64 1))) none none = some (.d (.str v))
theorem sliceOneE : sliceOneE_T := fun s v h2 e => by subst e; exact sliceLo s 1 (by omega) (by omega)
def rb2_T : Prop := ∀ (w v : Str) (h0 : 0 < w.length) (hm : byteAt w 0 = 45) (hv : w.drop 1 = v) (hl : v.length = 0), Ans X0 FQ [.d (.str w)] (.d (valD 0 [] false))
def rb3_T : Prop := ∀ (w v : Str) (h0 : 0 < w.length) (hm : byteAt w 0 = 45) (hv : w.drop 1 = v) (hl : 12 < v.length), Ans X0 FQ [.d (.str w)] (.d (valD 0 [] false))
def rb4_T : Prop := ∀ (w v : Str) (h0 : 0 < w.length) (hm : byteAt w 0 = 45) (hv : w.drop 1 = v) (h1 : 1 ≤ v.length) (hl : v.length ≤ 12) (hn : numOk v = false), Ans X0 FQ [.d (.str w)] (.d (valD 0 [] false))
def rb5_T : Prop := ∀ (w v : Str) (h0 : 0 < w.length) (hm : byteAt w 0 = 45) (hv : w.drop 1 = v) (h1 : 1 ≤ v.length) (hl : v.length ≤ 12) (hn : numOk v = true) (n0 : 0 ≤ numR v) (n1 : numR v ≤ 999999999999), Ans X0 FQ [.d (.str w)] (.d (valD (-1 * numR v) [] true))
def rb6_T : Prop := ∀ (w : Str) (hm : byteAt w 0 ≠ 45) (hl : 12 < w.length), Ans X0 FQ [.d (.str w)] (.d (valD 0 [] false))
def rb7_T : Prop := ∀ (w : Str) (h0 : 0 < w.length) (hm : byteAt w 0 ≠ 45) (hl : w.length ≤ 12) (hn : numOk w = false), Ans X0 FQ [.d (.str w)] (.d (valD 0 [] false))
def rb8_T : Prop := ∀ (w : Str) (h0 : 0 < w.length) (hm : byteAt w 0 ≠ 45) (hl : w.length ≤ 12) (hn : numOk w = true) (n0 : 0 ≤ numR w) (n1 : numR w ≤ 999999999999), Ans X0 FQ [.d (.str w)] (.d (valD (1 * numR w) [] true))
/- Told -/
theorem plainC_some {b : Int} (h : (plainC b).isSome = true) : (b = 115 ∧ (plainC b).getD 0 = 32) ∨ (b = 110 ∧ (plainC b).getD 0 = 10) ∨ (b = 116 ∧ (plainC b).getD 0 = 9) ∨ (b = 92 ∧ (plainC b).getD 0 = 92) := by
  unfold plainC at h ⊢
  by_cases h0 : b = 115
  · left; simp [h0]
  by_cases h1 : b = 110
  · right; left; simp [h1]
  by_cases h2 : b = 116
  · right; right; left; simp [h2]
  by_cases h3 : b = 92
  · right; right; right; simp [h3]
  · simp [h0, h1, h2, h3] at h
theorem plainC_none {b : Int} (h : ¬ (plainC b).isSome = true) : b ≠ 115 ∧ b ≠ 110 ∧ b ≠ 116 ∧ b ≠ 92 := by
  refine ⟨?_, ?_, ?_, ?_⟩ <;> (rintro rfl; simp [plainC] at h)
theorem rdYesC (w : Str) (hw : w.length ≤ 1000000) : ∀ f i s r k, toldF w f i s = some r → s.length ≤ i → i ≤ w.length → w.length < i + f → f < k → LpC X0 0 (ntOf X0 FTd) (lpKeep X0 FTd 0) (lpBody X0 FTd 0) 1 k (stD w s i) (.exit 0, stDx w r w.length) := by
  intro f
  induction f with
  | zero => intro i s r k _ _ h1 h2; omega
  | succ f ih =>
    intro i s r k h hs hi hf hk
    obtain ⟨k, rfl⟩ : ∃ x, k = x + 1 := ⟨k - 1, by omega⟩
    rw [toldF] at h
    by_cases hlt : i < w.length
    · rw [if_pos hlt] at h
      by_cases h9 : byteAt w i = 9 ∨ byteAt w i = 10
      · rw [if_pos h9] at h; cases h
      rw [if_neg h9] at h
      have n9 : byteAt w i ≠ 9 := fun e => h9 (Or.inl e)
      have n10 : byteAt w i ≠ 10 := fun e => h9 (Or.inr e)
      by_cases h92 : byteAt w i = 92
      · rw [if_neg (by simpa using h92)] at h
        by_cases hl : i + 1 = w.length
        · rw [if_pos hl] at h; cases h
        rw [if_neg hl] at h
        by_cases hp : (plainC (byteAt w (i + 1))).isSome = true
        · rw [if_pos hp] at h
          have step := fun x (hx : x.length ≤ i + 2) h => ih (i + 2) x r k h hx (by omega) (by omega) (by omega)
          rcases plainC_some hp with ⟨e, g⟩ | ⟨e, g⟩ | ⟨e, g⟩ | ⟨e, g⟩
          · rw [g] at h
            exact LpC.next (rd5 w s i hw (by omega) (by omega) h92 e) (step _ (by simp; omega) h)
          · rw [g] at h
            exact LpC.next (rd6 w s i hw (by omega) (by omega) h92 e) (step _ (by simp; omega) h)
          · rw [g] at h
            exact LpC.next (rd7 w s i hw (by omega) (by omega) h92 e) (step _ (by simp; omega) h)
          · rw [g] at h
            exact LpC.next (rd8 w s i hw (by omega) (by omega) h92 e) (step _ (by simp; omega) h)
        · rw [if_neg hp] at h; cases h
      · rw [if_pos h92] at h
        exact LpC.next (rd1 w s i hw (by omega) hlt n9 n10 h92) (ih (i + 1) _ r k h (by simp; omega) (by omega) (by omega) (by omega))
    · rw [if_neg hlt] at h
      obtain rfl : i = w.length := by omega
      cases h
      exact LpC.last (rd0 w s w.length (by omega) hw) (by simp)
theorem rdNoC (w : Str) (hw : w.length ≤ 1000000) : ∀ f i s k, toldF w f i s = none → s.length ≤ i → i ≤ w.length → w.length < i + f → f < k → LpC X0 0 (ntOf X0 FTd) (lpKeep X0 FTd 0) (lpBody X0 FTd 0) 1 k (stD w s i) (.ret, stQr) := by
  intro f
  induction f with
  | zero => intro i s k _ _ h1 h2; omega
  | succ f ih =>
    intro i s k h hs hi hf hk
    obtain ⟨k, rfl⟩ : ∃ x, k = x + 1 := ⟨k - 1, by omega⟩
    rw [toldF] at h
    by_cases hlt : i < w.length
    · rw [if_pos hlt] at h
      by_cases n9 : byteAt w i = 9
      · exact LpC.last (rd2 w s i hw (by omega) hlt n9) (by simp)
      by_cases n10 : byteAt w i = 10
      · exact LpC.last (rd3 w s i hw (by omega) hlt n10) (by simp)
      rw [if_neg (by rintro (e | e); exact n9 e; exact n10 e)] at h
      by_cases h92 : byteAt w i = 92
      · rw [if_neg (by simpa using h92)] at h
        by_cases hl : i + 1 = w.length
        · exact LpC.last (rd4 w s i hw (by omega) hl h92) (by simp)
        rw [if_neg hl] at h
        by_cases hp : (plainC (byteAt w (i + 1))).isSome = true
        · rw [if_pos hp] at h
          have step := fun x (hx : x.length ≤ i + 2) h => ih (i + 2) x k h hx (by omega) (by omega) (by omega)
          rcases plainC_some hp with ⟨e, g⟩ | ⟨e, g⟩ | ⟨e, g⟩ | ⟨e, g⟩
          · rw [g] at h
            exact LpC.next (rd5 w s i hw (by omega) (by omega) h92 e) (step _ (by simp; omega) h)
          · rw [g] at h
            exact LpC.next (rd6 w s i hw (by omega) (by omega) h92 e) (step _ (by simp; omega) h)
          · rw [g] at h
            exact LpC.next (rd7 w s i hw (by omega) (by omega) h92 e) (step _ (by simp; omega) h)
          · rw [g] at h
            exact LpC.next (rd8 w s i hw (by omega) (by omega) h92 e) (step _ (by simp; omega) h)
        · obtain ⟨a, b, c, d⟩ := plainC_none hp
          exact LpC.last (rd9 w s i hw (by omega) (by omega) h92 a b c d) (by simp)
      · rw [if_pos h92] at h
        exact LpC.next (rd1 w s i hw (by omega) hlt n9 n10 h92) (ih (i + 1) _ k h (by simp; omega) (by omega) (by omega) (by omega))
    · rw [if_neg hlt] at h; cases h
def rdYesL_T : Prop := ∀ (w s : Str) (hw : w.length ≤ 1000000) (h : toldO w = some s), Lp X0 0 (ntOf X0 FTd) (lpKeep X0 FTd 0) (lpBody X0 FTd 0) 1 FUEL (stD w [] 0) (.exit 0, stDx w s w.length)
theorem rdYesL : rdYesL_T := fun w s hw h => LpC.start (m := 1152921504606846975) (rdYesC w hw (w.length + 1) 0 [] s _ h (by simp) (by omega) (by omega) (by omega)) (by kernel_rfl)
def rdNoL_T : Prop := ∀ (w : Str) (hw : w.length ≤ 1000000) (h : toldO w = none), Lp X0 0 (ntOf X0 FTd) (lpKeep X0 FTd 0) (lpBody X0 FTd 0) 1 FUEL (stD w [] 0) (.ret, stQr)
theorem rdNoL : rdNoL_T := fun w hw h => LpC.start (m := 1152921504606846975) (rdNoC w hw (w.length + 1) 0 [] _ h (by simp) (by omega) (by omega) (by omega)) (by kernel_rfl)
def rt1_T : Prop := ∀ (w : Str) (he : (w == [92, 101]) = true), Ans X0 FTd [.d (.str w)] (.d (valD 0 [] true))
def rt2_T : Prop := ∀ (w s : Str) (hw : w.length ≤ 1000000) (he : (w == [92, 101]) = false) (h : toldO w = some s) (h0 : 0 < w.length), Ans X0 FTd [.d (.str w)] (.d (valD 0 s true))
def rt3_T : Prop := ∀ (w : Str) (hw : w.length ≤ 1000000) (he : (w == [92, 101]) = false) (h : toldO w = none), Ans X0 FTd [.d (.str w)] (.d (valD 0 [] false))
def rt4_T : Prop := ∀ (w s : Str) (hw : w.length = 0) (he : (w == [92, 101]) = false) (h : toldO w = some s), Ans X0 FTd [.d (.str w)] (.d (valD 0 s false))
/- Words, Lines -/
/- words, as the reference cuts them -/
def wdF (d : Int) (s : Str) : Nat → Nat → List Str → Str → List Str × Str
  | 0, _, out, w => (out, w)
  | f + 1, i, out, w =>
    if i < s.length then
      if byteAt s i = d then wdF d s f (i + 1) (out ++ [w]) []
      else wdF d s f (i + 1) out (w ++ toBs [byteAt s i])
    else (out, w)
def glue (w : Str) (l : List Str) : List Str := (w ++ l.headD []) :: l.tail
theorem byteAt_get (s : Str) (i : Nat) (h : i < s.length) : toBs [byteAt s i] = [s[i]] := by
  simp [byteAt, List.getD_eq_getElem?_getD, List.getElem?_eq_getElem h]
theorem wdF_eq (d : UInt8) (s : Str) : ∀ f i out w, i ≤ s.length → s.length < i + f → (wdF d.toNat s f i out w).1 ++ [(wdF d.toNat s f i out w).2] = out ++ glue w (pieces d (s.drop i)) := by
  intro f
  induction f with
  | zero => intro i out w h1 h2; omega
  | succ f ih =>
    intro i out w h1 h2
    rw [wdF]
    by_cases hi : i < s.length
    · rw [if_pos hi, List.drop_eq_getElem_cons hi]
      by_cases hd : byteAt s i = d.toNat
      · rw [if_pos hd, ih (i + 1) _ _ (by omega) (by omega)]
        have e := (byteAt_eq s i d hi).1 hd
        rw [pieces, if_pos e]
        obtain ⟨a, l, hl⟩ := List.exists_cons_of_ne_nil (pieces_ne d (s.drop (i + 1)))
        rw [hl]
        simp [glue]
      · rw [if_neg hd, ih (i + 1) _ _ (by omega) (by omega)]
        have e : ¬ s[i] = d := fun h => hd ((byteAt_eq s i d hi).2 h)
        rw [pieces, if_neg e, byteAt_get s i hi]
        simp [glue]
    · rw [if_neg hi, List.drop_of_length_le (by omega)]
      simp [pieces, glue]
def wdO (d : Int) (s : Str) : List Str := (wdF d s (s.length + 1) 0 [] []).1
def wdW (d : Int) (s : Str) : Str := (wdF d s (s.length + 1) 0 [] []).2
theorem wd_pieces (d : UInt8) (s : Str) : wdO d.toNat s ++ [wdW d.toNat s] = pieces d s := by
  have := wdF_eq d s (s.length + 1) 0 [] [] (by omega) (by omega)
  unfold wdO wdW
  rw [this]
  obtain ⟨a, l, hl⟩ := List.exists_cons_of_ne_nil (pieces_ne d s)
  rw [List.drop_zero, hl]
  simp [glue]
theorem wd_len (d : UInt8) (s : Str) : (wdO d.toNat s).length ≤ s.length ∧ (wdW d.toNat s).length ≤ s.length := by
  have h := wd_pieces d s
  have h1 := congrArg List.length h
  rw [pieces_length] at h1
  have := List.count_le_length (a := d) (l := s)
  refine ⟨by simp at h1; omega, pieces_small d s _ ?_⟩
  rw [← h]; simp
theorem rwC (s : Str) (hs : s.length ≤ 1000000) : ∀ f i out w k, out.length ≤ i → w.length ≤ i → i ≤ s.length → s.length < i + f → f < k → LpC X0 0 (ntOf X0 FWd) (lpKeep X0 FWd 0) (lpBody X0 FWd 0) 0 k (stX s out w i) (.exit 0, stXx s (wdF 32 s f i out w).1 (wdF 32 s f i out w).2 s.length) := by
  intro f
  induction f with
  | zero => intro i out w k _ _ h1 h2; omega
  | succ f ih =>
    intro i out w k ho hw hi hf hk
    obtain ⟨k, rfl⟩ : ∃ x, k = x + 1 := ⟨k - 1, by omega⟩
    rw [wdF]
    by_cases hlt : i < s.length
    · rw [if_pos hlt]
      by_cases hd : byteAt s i = 32
      · rw [if_pos hd]
        exact LpC.next (rw1 s out w i hs (by omega) (by omega) hlt hd) (ih (i + 1) _ _ k (by simp; omega) (by simp) (by omega) (by omega) (by omega))
      · rw [if_neg hd]
        exact LpC.next (rw2 s out w i hs (by omega) (by omega) hlt hd) (ih (i + 1) _ _ k (by omega) (by simp; omega) (by omega) (by omega) (by omega))
    · rw [if_neg hlt]
      obtain rfl : i = s.length := by omega
      exact LpC.last (rw3 s out w s.length (by omega) hs) (by simp)
theorem rlC (s : Str) (hs : s.length ≤ 1000000) : ∀ f i out w k, out.length ≤ i → w.length ≤ i → i ≤ s.length → s.length < i + f → f < k → LpC X0 0 (ntOf X0 FLn) (lpKeep X0 FLn 0) (lpBody X0 FLn 0) 0 k (stX s out w i) (.exit 0, stXx s (wdF 10 s f i out w).1 (wdF 10 s f i out w).2 s.length) := by
  intro f
  induction f with
  | zero => intro i out w k _ _ h1 h2; omega
  | succ f ih =>
    intro i out w k ho hw hi hf hk
    obtain ⟨k, rfl⟩ : ∃ x, k = x + 1 := ⟨k - 1, by omega⟩
    rw [wdF]
    by_cases hlt : i < s.length
    · rw [if_pos hlt]
      by_cases hd : byteAt s i = 10
      · rw [if_pos hd]
        exact LpC.next (rl1 s out w i hs (by omega) (by omega) hlt hd) (ih (i + 1) _ _ k (by simp; omega) (by simp) (by omega) (by omega) (by omega))
      · rw [if_neg hd]
        exact LpC.next (rl2 s out w i hs (by omega) (by omega) hlt hd) (ih (i + 1) _ _ k (by omega) (by simp; omega) (by omega) (by omega) (by omega))
    · rw [if_neg hlt]
      obtain rfl : i = s.length := by omega
      exact LpC.last (rl3 s out w s.length (by omega) hs) (by simp)
def rwL_T : Prop := ∀ (s : Str) (hs : s.length ≤ 1000000), Lp X0 0 (ntOf X0 FWd) (lpKeep X0 FWd 0) (lpBody X0 FWd 0) 0 FUEL (stX s [] [] 0) (.exit 0, stXx s (wdO 32 s) (wdW 32 s) s.length)
theorem rwL : rwL_T := fun s hs => LpC.start (m := 1152921504606846975) (rwC s hs (s.length + 1) 0 [] [] _ (by simp) (by simp) (by omega) (by omega) (by omega)) (by kernel_rfl)
def rlL_T : Prop := ∀ (s : Str) (hs : s.length ≤ 1000000), Lp X0 0 (ntOf X0 FLn) (lpKeep X0 FLn 0) (lpBody X0 FLn 0) 0 FUEL (stX s [] [] 0) (.exit 0, stXx s (wdO 10 s) (wdW 10 s) s.length)
theorem rlL : rlL_T := fun s hs => LpC.start (m := 1152921504606846975) (rlC s hs (s.length + 1) 0 [] [] _ (by simp) (by simp) (by omega) (by omega) (by omega)) (by kernel_rfl)
def rwB_T : Prop := ∀ (s : Str) (hs : s.length ≤ 1000000) (hl : (wdO 32 s).length ≤ 1000000), Ans X0 FWd [.d (.str s)] (.d (strT.slD (wdO 32 s ++ [wdW 32 s])))
def rlB_T : Prop := ∀ (s : Str) (hs : s.length ≤ 1000000) (hl : (wdO 10 s).length ≤ 1000000), Ans X0 FLn [.d (.str s)] (.d (strT.slD (wdO 10 s ++ [wdW 10 s])))
end Go.Proofs.YtgiahagbmgnmkaaDoor.Script
