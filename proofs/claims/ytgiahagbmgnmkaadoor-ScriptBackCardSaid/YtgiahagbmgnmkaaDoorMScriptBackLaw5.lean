/- Lemmas for the law ScriptBackLaw: texts of mine, merged. -/
import Derived.Test.YtgiahagbmgnmkaaDoorMScriptBackLaw4
/- Script: paths, printed by a program of mine. -/
set_option maxRecDepth 100000
set_option linter.unusedSimpArgs false
set_option linter.unusedVariables false
namespace Go.Proofs.YtgiahagbmgnmkaaDoor.Script
open Go Pv G
set_option maxHeartbeats 4000000 in
theorem smY : smY_T := by
  intro k a b es rs ns fs qs ms o1 o2 o3 h1 h2 h3 g1 g2 g3 e1 e2 e3
  have hx0 : (k != k) = false := by simp [*]
  have hx1 : (a != a) = false := by simp [*]
  have hx2 : (b != b) = false := by simp [*]
  have hx3 : ((↑(List.length es) : Int) != (↑(List.length fs) : Int)) = false := by simp [*]
  have hx4 : ((↑(List.length rs) : Int) != (↑(List.length qs) : Int)) = false := by simp [*]
  have hx5 : ((↑(List.length ns) : Int) != (↑(List.length ms) : Int)) = false := by simp [*]
  exact pV 12 [(3, bf), (4, bf), (6, bf), (7, bf), (9, bf), (11, bf), (12, bf), (13, bf), (15, bf), (16, bf), (18, bf), (20, bf), (21, bf), (22, bf), (24, bf), (26, bf), (27, bf), (29, bf), (31, bf), (33, bf), (34, bf), (35, bf), (37, bf), (39, bf), (40, bf), (42, bf), (44, bf), (46, bf), (47, bf), (48, bf), (50, bf), (52, bf), (53, bf), (55, bf), (57, bf), (59, bf), (60, bf), (63, .l (Ex.exit (0 : Nat)) (stV1x k a b es rs ns k a b fs qs ms o1 (List.length es))), (66, .l (Ex.exit (2 : Nat)) (stV2x k a b es rs ns k a b fs qs ms o2 (List.length rs))), (69, .l (Ex.exit (4 : Nat)) (stV3x k a b es rs ns k a b fs qs ms o3 (List.length ns)))] (cE (@svL3 (k) (a) (b) (es) (rs) (ns) (k) (a) (b) (fs) (qs) (ms) (o2) (o3) h3 g3 e3) (cE (@svL2 (k) (a) (b) (es) (rs) (ns) (k) (a) (b) (fs) (qs) (ms) (o1) (o2) h2 g2 e2) (cE (@svL1 (k) (a) (b) (es) (rs) (ns) (k) (a) (b) (fs) (qs) (ms) (true) (o1) h1 g1 e1) (cP hx5 (cP hx4 (cP hx4 (cP hx4 (cP hx4 (cP hx4 (cP hx4 (cP hx4 (cP hx4 (cP hx3 (cP hx3 (cP hx3 (cP hx3 (cP hx3 (cP hx3 (cP hx3 (cP hx3 (cP hx2 (cP hx2 (cP hx2 (cP hx2 (cP hx2 (cP hx2 (cP hx2 (cP hx2 (cP hx1 (cP hx1 (cP hx1 (cP hx1 (cP hx1 (cP hx1 (cP hx0 (cP hx0 (cP hx0 (cP hx0 (cP hx0 (cP hx0 nilE)))))))))))))))))))))))))))))))))))))))) (by kernel_rfl) rfl rfl
set_option maxHeartbeats 4000000 in
theorem smN1 : smN1_T := by
  intro k a b es rs ns k2 a2 b2 fs qs ms h
  have hx0 : (k != k2) = true := by simp [*]
  exact pV 12 [(3, bt), (4, bt), (5, bt), (6, bt), (7, bt), (8, bt)] (cP hx0 (cP hx0 (cP hx0 (cP hx0 (cP hx0 (cP hx0 nilE)))))) (by kernel_rfl) rfl rfl
set_option maxHeartbeats 4000000 in
theorem smN2 : smN2_T := by
  intro k a b es rs ns k2 a2 b2 fs qs ms h
  have hx0 : (k != k) = false := by simp [*]
  have hx1 : (a != a2) = true := by simp [*]
  exact pV 12 [(3, bf), (4, bf), (6, bf), (7, bf), (9, bf), (11, bf), (12, bt), (13, bt), (14, bt), (15, bt), (16, bt), (17, bt)] (cP hx1 (cP hx1 (cP hx1 (cP hx1 (cP hx1 (cP hx1 (cP hx0 (cP hx0 (cP hx0 (cP hx0 (cP hx0 (cP hx0 nilE)))))))))))) (by kernel_rfl) rfl rfl
set_option maxHeartbeats 4000000 in
theorem smN3 : smN3_T := by
  intro k a b es rs ns k2 a2 b2 fs qs ms h
  have hx0 : (k != k) = false := by simp [*]
  have hx1 : (a != a) = false := by simp [*]
  have hx2 : (b != b2) = true := by simp [*]
  exact pV 12 [(3, bf), (4, bf), (6, bf), (7, bf), (9, bf), (11, bf), (12, bf), (13, bf), (15, bf), (16, bf), (18, bf), (20, bf), (21, bt), (22, bt), (23, bt), (24, bt), (25, bt), (26, bt), (27, bt), (28, bt)] (cP hx2 (cP hx2 (cP hx2 (cP hx2 (cP hx2 (cP hx2 (cP hx2 (cP hx2 (cP hx1 (cP hx1 (cP hx1 (cP hx1 (cP hx1 (cP hx1 (cP hx0 (cP hx0 (cP hx0 (cP hx0 (cP hx0 (cP hx0 nilE)))))))))))))))))))) (by kernel_rfl) rfl rfl
set_option maxHeartbeats 4000000 in
theorem smN4 : smN4_T := by
  intro k a b es rs ns k2 a2 b2 fs qs ms h
  have hx0 : (k != k) = false := by simp [*]
  have hx1 : (a != a) = false := by simp [*]
  have hx2 : (b != b) = false := by simp [*]
  have hx3 : ((↑(List.length es) : Int) != (↑(List.length fs) : Int)) = true := by (first | assumption | (((try simp only [SA] at *); (try simp (disch := omega) only [SB, reduceCtorEq] at *)) <;> first | omega | assumption | (refine ⟨?_, ?_⟩ <;> assumption) | (refine ⟨?_, ?_, ?_⟩ <;> assumption) | (intros; assumption) | (right; right; assumption) | (right; left; assumption) | (left; assumption)))
  exact pV 12 [(3, bf), (4, bf), (6, bf), (7, bf), (9, bf), (11, bf), (12, bf), (13, bf), (15, bf), (16, bf), (18, bf), (20, bf), (21, bf), (22, bf), (24, bf), (26, bf), (27, bf), (29, bf), (31, bf), (33, bf), (34, bt), (35, bt), (36, bt), (37, bt), (38, bt), (39, bt), (40, bt), (41, bt)] (cP hx3 (cP hx3 (cP hx3 (cP hx3 (cP hx3 (cP hx3 (cP hx3 (cP hx3 (cP hx2 (cP hx2 (cP hx2 (cP hx2 (cP hx2 (cP hx2 (cP hx2 (cP hx2 (cP hx1 (cP hx1 (cP hx1 (cP hx1 (cP hx1 (cP hx1 (cP hx0 (cP hx0 (cP hx0 (cP hx0 (cP hx0 (cP hx0 nilE)))))))))))))))))))))))))))) (by kernel_rfl) rfl rfl
set_option maxHeartbeats 4000000 in
theorem smN5 : smN5_T := by
  intro k a b es rs ns k2 a2 b2 fs qs ms g1 h
  have hx0 : (k != k) = false := by simp [*]
  have hx1 : (a != a) = false := by simp [*]
  have hx2 : (b != b) = false := by simp [*]
  have hx3 : ((↑(List.length es) : Int) != (↑(List.length fs) : Int)) = false := by simp [*]
  have hx4 : ((↑(List.length rs) : Int) != (↑(List.length qs) : Int)) = true := by (first | assumption | (((try simp only [SA] at *); (try simp (disch := omega) only [SB, reduceCtorEq] at *)) <;> first | omega | assumption | (refine ⟨?_, ?_⟩ <;> assumption) | (refine ⟨?_, ?_, ?_⟩ <;> assumption) | (intros; assumption) | (right; right; assumption) | (right; left; assumption) | (left; assumption)))
  exact pV 12 [(3, bf), (4, bf), (6, bf), (7, bf), (9, bf), (11, bf), (12, bf), (13, bf), (15, bf), (16, bf), (18, bf), (20, bf), (21, bf), (22, bf), (24, bf), (26, bf), (27, bf), (29, bf), (31, bf), (33, bf), (34, bf), (35, bf), (37, bf), (39, bf), (40, bf), (42, bf), (44, bf), (46, bf), (47, bt), (48, bt), (49, bt), (50, bt), (51, bt), (52, bt), (53, bt), (54, bt)] (cP hx4 (cP hx4 (cP hx4 (cP hx4 (cP hx4 (cP hx4 (cP hx4 (cP hx4 (cP hx3 (cP hx3 (cP hx3 (cP hx3 (cP hx3 (cP hx3 (cP hx3 (cP hx3 (cP hx2 (cP hx2 (cP hx2 (cP hx2 (cP hx2 (cP hx2 (cP hx2 (cP hx2 (cP hx1 (cP hx1 (cP hx1 (cP hx1 (cP hx1 (cP hx1 (cP hx0 (cP hx0 (cP hx0 (cP hx0 (cP hx0 (cP hx0 nilE)))))))))))))))))))))))))))))))))))) (by kernel_rfl) rfl rfl
set_option maxHeartbeats 4000000 in
theorem smN6 : smN6_T := by
  intro k a b es rs ns k2 a2 b2 fs qs ms g1 g2 h
  have hx0 : (k != k) = false := by simp [*]
  have hx1 : (a != a) = false := by simp [*]
  have hx2 : (b != b) = false := by simp [*]
  have hx3 : ((↑(List.length es) : Int) != (↑(List.length fs) : Int)) = false := by simp [*]
  have hx4 : ((↑(List.length rs) : Int) != (↑(List.length qs) : Int)) = false := by simp [*]
  have hx5 : ((↑(List.length ns) : Int) != (↑(List.length ms) : Int)) = true := by (first | assumption | (((try simp only [SA] at *); (try simp (disch := omega) only [SB, reduceCtorEq] at *)) <;> first | omega | assumption | (refine ⟨?_, ?_⟩ <;> assumption) | (refine ⟨?_, ?_, ?_⟩ <;> assumption) | (intros; assumption) | (right; right; assumption) | (right; left; assumption) | (left; assumption)))
  exact pV 12 [(3, bf), (4, bf), (6, bf), (7, bf), (9, bf), (11, bf), (12, bf), (13, bf), (15, bf), (16, bf), (18, bf), (20, bf), (21, bf), (22, bf), (24, bf), (26, bf), (27, bf), (29, bf), (31, bf), (33, bf), (34, bf), (35, bf), (37, bf), (39, bf), (40, bf), (42, bf), (44, bf), (46, bf), (47, bf), (48, bf), (50, bf), (52, bf), (53, bf), (55, bf), (57, bf), (59, bf), (60, bt)] (cP hx5 (cP hx4 (cP hx4 (cP hx4 (cP hx4 (cP hx4 (cP hx4 (cP hx4 (cP hx4 (cP hx3 (cP hx3 (cP hx3 (cP hx3 (cP hx3 (cP hx3 (cP hx3 (cP hx3 (cP hx2 (cP hx2 (cP hx2 (cP hx2 (cP hx2 (cP hx2 (cP hx2 (cP hx2 (cP hx1 (cP hx1 (cP hx1 (cP hx1 (cP hx1 (cP hx1 (cP hx0 (cP hx0 (cP hx0 (cP hx0 (cP hx0 (cP hx0 nilE))))))))))))))))))))))))))))))))))))) (by kernel_rfl) rfl rfl
set_option maxHeartbeats 4000000 in
theorem lnD1 : lnD1_T := by
  intro k a b es rs ns line o ws hw hs ej hl hW e
  exact pV 12 [(1, .v (V.d (strsD ws))), (2, .v (V.d (D.str line))), (3, .v (errR))] (cC (@psErr (line) (o) hl e) (cC (@joinD (ws) (line) hw hs ej) (cC (@idWs ([(V.d (D.agg [(D.int IntKind.i64 k), (D.int IntKind.i64 a), (D.int IntKind.i64 b), (D.sl (List.flatMap (Ty.enc editT) es) (List.length es)), (D.sl (List.flatMap (Ty.enc i64) rs) (List.length rs)), (D.sl (List.flatMap (Ty.enc inlT) ns) (List.length ns))]))]) (V.d (strsD ws)) hW) nilE))) (by kernel_rfl) rfl rfl
set_option maxHeartbeats 4000000 in
theorem lnD2 : lnD2_T := by
  intro k a b es rs ns line k2 a2 b2 fs qs ms ws hw hs ej hl hW e hS
  exact pV 12 [(1, .v (V.d (strsD ws))), (2, .v (V.d (D.str line))), (3, .v (okR k2 a2 b2 fs qs ms)), (10, .v (V.d (D.bool false)))] (cC (@idSe ([(V.d (D.agg [(D.int IntKind.i64 k2), (D.int IntKind.i64 a2), (D.int IntKind.i64 b2), (D.sl (List.flatMap (Ty.enc editT) fs) (List.length fs)), (D.sl (List.flatMap (Ty.enc i64) qs) (List.length qs)), (D.sl (List.flatMap (Ty.enc inlT) ms) (List.length ms))])), (V.d (D.agg [(D.int IntKind.i64 k), (D.int IntKind.i64 a), (D.int IntKind.i64 b), (D.sl (List.flatMap (Ty.enc editT) es) (List.length es)), (D.sl (List.flatMap (Ty.enc i64) rs) (List.length rs)), (D.sl (List.flatMap (Ty.enc inlT) ns) (List.length ns))]))]) (V.d (D.bool false)) hS) (cC (@psOk (line) (k2) (a2) (b2) (fs) (qs) (ms) hl e) (cC (@joinD (ws) (line) hw hs ej) (cC (@idWs ([(V.d (D.agg [(D.int IntKind.i64 k), (D.int IntKind.i64 a), (D.int IntKind.i64 b), (D.sl (List.flatMap (Ty.enc editT) es) (List.length es)), (D.sl (List.flatMap (Ty.enc i64) rs) (List.length rs)), (D.sl (List.flatMap (Ty.enc inlT) ns) (List.length ns))]))]) (V.d (strsD ws)) hW) nilE)))) (by kernel_rfl) rfl rfl
set_option maxHeartbeats 4000000 in
theorem lnD3 : lnD3_T := by
  intro k a b es rs ns line ws hw hs ej hl hW e hS
  exact pV 12 [(1, .v (V.d (strsD ws))), (2, .v (V.d (D.str line))), (3, .v (okR k a b es rs ns)), (10, .v (V.d (D.bool true)))] (cC (@idSe ([(V.d (D.agg [(D.int IntKind.i64 k), (D.int IntKind.i64 a), (D.int IntKind.i64 b), (D.sl (List.flatMap (Ty.enc editT) es) (List.length es)), (D.sl (List.flatMap (Ty.enc i64) rs) (List.length rs)), (D.sl (List.flatMap (Ty.enc inlT) ns) (List.length ns))])), (V.d (D.agg [(D.int IntKind.i64 k), (D.int IntKind.i64 a), (D.int IntKind.i64 b), (D.sl (List.flatMap (Ty.enc editT) es) (List.length es)), (D.sl (List.flatMap (Ty.enc i64) rs) (List.length rs)), (D.sl (List.flatMap (Ty.enc inlT) ns) (List.length ns))]))]) (V.d (D.bool true)) hS) (cC (@psOk (line) (k) (a) (b) (es) (rs) (ns) hl e) (cC (@joinD (ws) (line) hw hs ej) (cC (@idWs ([(V.d (D.agg [(D.int IntKind.i64 k), (D.int IntKind.i64 a), (D.int IntKind.i64 b), (D.sl (List.flatMap (Ty.enc editT) es) (List.length es)), (D.sl (List.flatMap (Ty.enc i64) rs) (List.length rs)), (D.sl (List.flatMap (Ty.enc inlT) ns) (List.length ns))]))]) (V.d (strsD ws)) hW) nilE)))) (by kernel_rfl) rfl rfl
set_option maxHeartbeats 4000000 in
theorem lnF1 : lnF1_T := by
  intro k a b es rs ns line o hl hW e
  exact pV 12 [(1, .v (V.full [(D.str line)] (1 : Nat))), (2, .v (V.d (D.str line))), (3, .v (errR))] (cC (@psErr (line) (o) hl e) (cC (@joinF (line) hl) (cC (@idWs ([(V.d (D.agg [(D.int IntKind.i64 k), (D.int IntKind.i64 a), (D.int IntKind.i64 b), (D.sl (List.flatMap (Ty.enc editT) es) (List.length es)), (D.sl (List.flatMap (Ty.enc i64) rs) (List.length rs)), (D.sl (List.flatMap (Ty.enc inlT) ns) (List.length ns))]))]) (V.full [(D.str line)] (1 : Nat)) hW) nilE))) (by kernel_rfl) rfl rfl
set_option maxHeartbeats 4000000 in
theorem lnF2 : lnF2_T := by
  intro k a b es rs ns line k2 a2 b2 fs qs ms hl hW e hS
  exact pV 12 [(1, .v (V.full [(D.str line)] (1 : Nat))), (2, .v (V.d (D.str line))), (3, .v (okR k2 a2 b2 fs qs ms)), (10, .v (V.d (D.bool false)))] (cC (@idSe ([(V.d (D.agg [(D.int IntKind.i64 k2), (D.int IntKind.i64 a2), (D.int IntKind.i64 b2), (D.sl (List.flatMap (Ty.enc editT) fs) (List.length fs)), (D.sl (List.flatMap (Ty.enc i64) qs) (List.length qs)), (D.sl (List.flatMap (Ty.enc inlT) ms) (List.length ms))])), (V.d (D.agg [(D.int IntKind.i64 k), (D.int IntKind.i64 a), (D.int IntKind.i64 b), (D.sl (List.flatMap (Ty.enc editT) es) (List.length es)), (D.sl (List.flatMap (Ty.enc i64) rs) (List.length rs)), (D.sl (List.flatMap (Ty.enc inlT) ns) (List.length ns))]))]) (V.d (D.bool false)) hS) (cC (@psOk (line) (k2) (a2) (b2) (fs) (qs) (ms) hl e) (cC (@joinF (line) hl) (cC (@idWs ([(V.d (D.agg [(D.int IntKind.i64 k), (D.int IntKind.i64 a), (D.int IntKind.i64 b), (D.sl (List.flatMap (Ty.enc editT) es) (List.length es)), (D.sl (List.flatMap (Ty.enc i64) rs) (List.length rs)), (D.sl (List.flatMap (Ty.enc inlT) ns) (List.length ns))]))]) (V.full [(D.str line)] (1 : Nat)) hW) nilE)))) (by kernel_rfl) rfl rfl
set_option maxHeartbeats 4000000 in
theorem lnF3 : lnF3_T := by
  intro k a b es rs ns line hl hW e hS
  exact pV 12 [(1, .v (V.full [(D.str line)] (1 : Nat))), (2, .v (V.d (D.str line))), (3, .v (okR k a b es rs ns)), (10, .v (V.d (D.bool true)))] (cC (@idSe ([(V.d (D.agg [(D.int IntKind.i64 k), (D.int IntKind.i64 a), (D.int IntKind.i64 b), (D.sl (List.flatMap (Ty.enc editT) es) (List.length es)), (D.sl (List.flatMap (Ty.enc i64) rs) (List.length rs)), (D.sl (List.flatMap (Ty.enc inlT) ns) (List.length ns))])), (V.d (D.agg [(D.int IntKind.i64 k), (D.int IntKind.i64 a), (D.int IntKind.i64 b), (D.sl (List.flatMap (Ty.enc editT) es) (List.length es)), (D.sl (List.flatMap (Ty.enc i64) rs) (List.length rs)), (D.sl (List.flatMap (Ty.enc inlT) ns) (List.length ns))]))]) (V.d (D.bool true)) hS) (cC (@psOk (line) (k) (a) (b) (es) (rs) (ns) hl e) (cC (@joinF (line) hl) (cC (@idWs ([(V.d (D.agg [(D.int IntKind.i64 k), (D.int IntKind.i64 a), (D.int IntKind.i64 b), (D.sl (List.flatMap (Ty.enc editT) es) (List.length es)), (D.sl (List.flatMap (Ty.enc i64) rs) (List.length rs)), (D.sl (List.flatMap (Ty.enc inlT) ns) (List.length ns))]))]) (V.full [(D.str line)] (1 : Nat)) hW) nilE)))) (by kernel_rfl) rfl rfl
set_option maxHeartbeats 4000000 in
theorem lnT1 : lnT1_T := by
  intro k a b es rs ns o hW e
  exact pV 12 [(1, .v (Ty.tailV strT (9 : TypeId) [])), (2, .v (V.d (D.str []))), (3, .v (errR))] (cC (@psErr ([]) (o) (by simp [*]) e) (cC (@joinN ) (cC (@idWs ([(V.d (D.agg [(D.int IntKind.i64 k), (D.int IntKind.i64 a), (D.int IntKind.i64 b), (D.sl (List.flatMap (Ty.enc editT) es) (List.length es)), (D.sl (List.flatMap (Ty.enc i64) rs) (List.length rs)), (D.sl (List.flatMap (Ty.enc inlT) ns) (List.length ns))]))]) (Ty.tailV strT (9 : TypeId) []) hW) nilE))) (by kernel_rfl) rfl rfl
set_option maxHeartbeats 4000000 in
theorem sl1 : sl1_T := by
  intro l i x hl hi e h1 h2
  have hx0 : (decide ((↑i : Int) < (↑(List.length l) : Int))) = true := by exact decide_eq_true (by omega)
  have hx1 : (decide (x > (999999999999 : Int))) = false := by exact decide_eq_false (by omega)
  have hx2 : (decide (x < ((-999999999999) : Int))) = false := by exact decide_eq_false (by omega)
  exact (pC (st' := { s := [((nat_lit 5), (V.d (D.sl (List.flatMap (Ty.enc i64) l) (List.length l)))), ((nat_lit 6), (V.d (D.int IntKind.i64 (↑(List.length l) : Int)))), ((nat_lit 7), (V.d (D.int IntKind.i64 (IntKind.wrap IntKind.i64 ((↑i : Int) + (1 : Int))))))], h := [], og := [] }) 12 [(1, bt), (2, .v (V.d (D.ref (List.flatMap (Ty.enc i64) l) ((Int.toNat (↑i : Int)) * (1 : Nat))))), (3, .v (V.d (D.int IntKind.i64 x))), (5, bf), (6, bf), (8, bf), (9, bf)] (cP hx2 (cP hx1 (cP hx1 (cP hx1 (cP (@loadIntE (l) ([]) (i) (x) hi e) (cP (@iaddrInt (l) ((↑i : Int)) (by omega) (by omega)) (cP hx0 nilE))))))) (by kernel_rfl)).to (by ((try simp (disch := omega) only [wrapId, sizeOne, sizeStr, List.length_cons, List.length_nil, wrapU8, toNatAdd, toNatSucc] at *) <;> (try simp only [Int.toNat_natCast, beq_iff_eq, beq_eq_false_iff_ne, bne_iff_ne, bne_eq_false_iff_eq, ne_eq, Int.natCast_eq_zero, Int.natCast_inj] at *) <;> first | (simp (disch := omega) [Ty.enc, wrapId, toNatPred, toNatAdd, toNatSucc, sizeOne, sizeStr, List.length_cons, List.length_nil, wrapU8, ltF, ltT, Ty.slD, *]; done) | (subst_vars; simp (disch := omega) [Ty.enc, wrapId, toNatPred, toNatAdd, toNatSucc, sizeOne, sizeStr, List.length_cons, List.length_nil, wrapU8, ltF, ltT, Ty.slD, *]; done)))
set_option maxHeartbeats 4000000 in
theorem sl2 : sl2_T := by
  intro l i x hl hi e h2
  have hx0 : (decide ((↑i : Int) < (↑(List.length l) : Int))) = true := by exact decide_eq_true (by omega)
  have hx1 : (decide (x > (999999999999 : Int))) = true := by exact decide_eq_true (by omega)
  exact pR 12 [(1, bt), (2, .v (V.d (D.ref (List.flatMap (Ty.enc i64) l) ((Int.toNat (↑i : Int)) * (1 : Nat))))), (3, .v (V.d (D.int IntKind.i64 x))), (5, bt), (6, bt), (7, bt)] (cP hx1 (cP hx1 (cP hx1 (cP (@loadIntE (l) ([]) (i) (x) hi e) (cP (@iaddrInt (l) ((↑i : Int)) (by omega) (by omega)) (cP hx0 nilE)))))) (by kernel_rfl)
set_option maxHeartbeats 4000000 in
theorem sl3 : sl3_T := by
  intro l i x hl hi e h1
  have hx0 : (decide ((↑i : Int) < (↑(List.length l) : Int))) = true := by exact decide_eq_true (by omega)
  have hx1 : (decide (x > (999999999999 : Int))) = false := by exact decide_eq_false (by omega)
  have hx2 : (decide (x < ((-999999999999) : Int))) = true := by exact decide_eq_true (by omega)
  exact pR 12 [(1, bt), (2, .v (V.d (D.ref (List.flatMap (Ty.enc i64) l) ((Int.toNat (↑i : Int)) * (1 : Nat))))), (3, .v (V.d (D.int IntKind.i64 x))), (5, bf), (6, bf), (8, bf), (9, bt)] (cP hx2 (cP hx1 (cP hx1 (cP hx1 (cP (@loadIntE (l) ([]) (i) (x) hi e) (cP (@iaddrInt (l) ((↑i : Int)) (by omega) (by omega)) (cP hx0 nilE))))))) (by kernel_rfl)
set_option maxHeartbeats 4000000 in
theorem sl4 : sl4_T := by
  intro l i hi h2
  have hx0 : (decide ((↑i : Int) < (↑(List.length l) : Int))) = false := by exact decide_eq_false (by omega)
  exact (pR (r := ((Ex.exit (nat_lit 0)), { s := [((nat_lit 5), (V.d (D.sl (List.flatMap (Ty.enc i64) l) (List.length l)))), ((nat_lit 6), (V.d (D.int IntKind.i64 (↑(List.length l) : Int)))), ((nat_lit 7), (V.d (D.int IntKind.i64 (↑i : Int)))), ((nat_lit 8), (V.d (D.bool (decide ((↑i : Int) < (↑(List.length l) : Int))))))], h := [], og := [] })) 12 [(1, bf)] (cP hx0 nilE) (by kernel_rfl)).to (by ((try simp (disch := omega) only [wrapId, sizeOne, sizeStr, List.length_cons, List.length_nil, wrapU8, toNatAdd, toNatSucc] at *) <;> (try simp only [Int.toNat_natCast, beq_iff_eq, beq_eq_false_iff_ne, bne_iff_ne, bne_eq_false_iff_eq, ne_eq, Int.natCast_eq_zero, Int.natCast_inj] at *) <;> first | (simp (disch := omega) [Ty.enc, wrapId, toNatPred, toNatAdd, toNatSucc, sizeOne, sizeStr, List.length_cons, List.length_nil, wrapU8, ltF, ltT, Ty.slD, *]; done) | (subst_vars; simp (disch := omega) [Ty.enc, wrapId, toNatPred, toNatAdd, toNatSucc, sizeOne, sizeStr, List.length_cons, List.length_nil, wrapU8, ltF, ltT, Ty.slD, *]; done)))
set_option maxHeartbeats 4000000 in
theorem sf1 : sf1_T := by
  intro a b ha hb h1 h2 h3 h4
  have hx0 : (decide (a > (999999999999 : Int))) = false := by exact decide_eq_false (by omega)
  have hx1 : (decide (a < ((-999999999999) : Int))) = false := by exact decide_eq_false (by omega)
  have hx2 : (decide (b > (999999999999 : Int))) = false := by exact decide_eq_false (by omega)
  have hx3 : (decide (b < ((-999999999999) : Int))) = false := by exact decide_eq_false (by omega)
  exact pV 12 [(7, bf), (8, bf), (10, bf), (11, bf), (18, bf), (19, bf), (21, bf), (22, bf)] (cP hx3 (cP hx2 (cP hx2 (cP hx2 (cP hx1 (cP hx0 (cP hx0 (cP hx0 nilE)))))))) (by kernel_rfl) rfl rfl
set_option maxHeartbeats 4000000 in
theorem sf2 : sf2_T := by
  intro a b h
  have hx0 : (decide (a > (999999999999 : Int))) = true := by exact decide_eq_true (by omega)
  exact pV 12 [(7, bt), (8, bt), (9, bt)] (cP hx0 (cP hx0 (cP hx0 nilE))) (by kernel_rfl) rfl rfl
set_option maxHeartbeats 4000000 in
theorem sf3 : sf3_T := by
  intro a b h
  have hx0 : (decide (a > (999999999999 : Int))) = false := by exact decide_eq_false (by omega)
  have hx1 : (decide (a < ((-999999999999) : Int))) = true := by exact decide_eq_true (by omega)
  exact pV 12 [(7, bf), (8, bf), (10, bf), (11, bt)] (cP hx1 (cP hx0 (cP hx0 (cP hx0 nilE)))) (by kernel_rfl) rfl rfl
set_option maxHeartbeats 4000000 in
theorem sf4 : sf4_T := by
  intro a b h1 h2 h
  have hx0 : (decide (a > (999999999999 : Int))) = false := by exact decide_eq_false (by omega)
  have hx1 : (decide (a < ((-999999999999) : Int))) = false := by exact decide_eq_false (by omega)
  have hx2 : (decide (b > (999999999999 : Int))) = true := by exact decide_eq_true (by omega)
  exact pV 12 [(7, bf), (8, bf), (10, bf), (11, bf), (18, bt), (19, bt), (20, bt)] (cP hx2 (cP hx2 (cP hx2 (cP hx1 (cP hx0 (cP hx0 (cP hx0 nilE))))))) (by kernel_rfl) rfl rfl
set_option maxHeartbeats 4000000 in
theorem sf5 : sf5_T := by
  intro a b h1 h2 h
  have hx0 : (decide (a > (999999999999 : Int))) = false := by exact decide_eq_false (by omega)
  have hx1 : (decide (a < ((-999999999999) : Int))) = false := by exact decide_eq_false (by omega)
  have hx2 : (decide (b > (999999999999 : Int))) = false := by exact decide_eq_false (by omega)
  have hx3 : (decide (b < ((-999999999999) : Int))) = true := by exact decide_eq_true (by omega)
  exact pV 12 [(7, bf), (8, bf), (10, bf), (11, bf), (18, bf), (19, bf), (21, bf), (22, bt)] (cP hx3 (cP hx2 (cP hx2 (cP hx2 (cP hx1 (cP hx0 (cP hx0 (cP hx0 nilE)))))))) (by kernel_rfl) rfl rfl
set_option maxHeartbeats 4000000 in
theorem ha11 : ha11_T := by
  intro k a b es rs ns l m i p q t e hl hm hi em
  have hx0 : (decide ((↑i : Int) < (↑(List.length es) : Int))) = true := by exact decide_eq_true (by omega)
  exact (pC (st' := { s := [((nat_lit 1), (V.obj (nat_lit 0) (nat_lit 0))), ((nat_lit 3), (V.tail (nat_lit 3) (List.flatMap (Ty.enc i64) m) (List.length m))), ((nat_lit 16), (V.d (D.sl (List.flatMap (Ty.enc editT) es) (List.length es)))), ((nat_lit 17), (V.d (D.int IntKind.i64 (↑(List.length es) : Int)))), ((nat_lit 18), (V.d (D.int IntKind.i64 (IntKind.wrap IntKind.i64 ((↑i : Int) + (1 : Int))))))], h := [(Ob.cells [(V.d (D.int IntKind.i64 k)), (V.d (D.int IntKind.i64 a)), (V.d (D.int IntKind.i64 b)), (V.d (D.sl (List.flatMap (Ty.enc editT) es) (List.length es))), (V.d (D.sl (List.flatMap (Ty.enc i64) rs) (List.length rs))), (V.d (D.sl (List.flatMap (Ty.enc inlT) ns) (List.length ns)))])], og := [] }) 12 [(1, bt), (2, .v (V.d (D.ref (List.flatMap (Ty.enc editT) es) ((Int.toNat (↑i : Int)) * (3 : Nat))))), (3, .v (V.d (D.agg [(D.int IntKind.i64 p), (D.int IntKind.i64 q), (D.str t)]))), (6, .v (Ty.tailV i64 (3 : TypeId) m))] (cP (@appendI2 (l) (m) (p) (q) (by omega) em) (cP (@loadEditE (es) ([(Ob.cells [(V.d (D.int IntKind.i64 k)), (V.d (D.int IntKind.i64 a)), (V.d (D.int IntKind.i64 b)), (V.d (D.sl (List.flatMap (Ty.enc editT) es) (List.length es))), (V.d (D.sl (List.flatMap (Ty.enc i64) rs) (List.length rs))), (V.d (D.sl (List.flatMap (Ty.enc inlT) ns) (List.length ns)))])]) (i) (p) (q) (t) hi e) (cP (@iaddrEdit (es) ((↑i : Int)) (by omega) (by omega)) (cP hx0 nilE)))) (by kernel_rfl)).to (by ((try simp (disch := omega) only [wrapId, sizeOne, sizeStr, List.length_cons, List.length_nil, wrapU8, toNatAdd, toNatSucc] at *) <;> (try simp only [Int.toNat_natCast, beq_iff_eq, beq_eq_false_iff_ne, bne_iff_ne, bne_eq_false_iff_eq, ne_eq, Int.natCast_eq_zero, Int.natCast_inj] at *) <;> first | (simp (disch := omega) [Ty.enc, wrapId, toNatPred, toNatAdd, toNatSucc, sizeOne, sizeStr, List.length_cons, List.length_nil, wrapU8, ltF, ltT, Ty.slD, *]; done) | (subst_vars; simp (disch := omega) [Ty.enc, wrapId, toNatPred, toNatAdd, toNatSucc, sizeOne, sizeStr, List.length_cons, List.length_nil, wrapU8, ltF, ltT, Ty.slD, *]; done)))
set_option maxHeartbeats 4000000 in
theorem ha12 : ha12_T := by
  intro k a b es rs ns m p q t e hl hi em
  have hx0 : (decide ((↑(0 : Nat) : Int) < (↑(List.length es) : Int))) = true := by exact decide_eq_true (by omega)
  exact pC 12 [(1, bt), (2, .v (V.d (D.ref (List.flatMap (Ty.enc editT) es) (0 : Nat)))), (3, .v (V.d (D.agg [(D.int IntKind.i64 p), (D.int IntKind.i64 q), (D.str t)]))), (6, .v (Ty.tailV i64 (3 : TypeId) m))] (cP (@appendF2 (a) (b) (p) (q) (m) em) (cP (@loadEdit0 (es) ([(Ob.cells [(V.d (D.int IntKind.i64 k)), (V.d (D.int IntKind.i64 a)), (V.d (D.int IntKind.i64 b)), (V.d (D.sl (List.flatMap (Ty.enc editT) es) (List.length es))), (V.d (D.sl (List.flatMap (Ty.enc i64) rs) (List.length rs))), (V.d (D.sl (List.flatMap (Ty.enc inlT) ns) (List.length ns)))])]) (p) (q) (t) hi e) (cP (@iaddrEdit0 (es) hi) (cP hx0 nilE)))) (by kernel_rfl)
set_option maxHeartbeats 4000000 in
theorem ha13 : ha13_T := by
  intro k a b es rs ns l i hi h2
  have hx0 : (decide ((↑i : Int) < (↑(List.length es) : Int))) = false := by exact decide_eq_false (by omega)
  exact (pR (r := ((Ex.exit (nat_lit 0)), { s := [((nat_lit 1), (V.obj (nat_lit 0) (nat_lit 0))), ((nat_lit 3), (V.tail (nat_lit 3) (List.flatMap (Ty.enc i64) l) (List.length l))), ((nat_lit 16), (V.d (D.sl (List.flatMap (Ty.enc editT) es) (List.length es)))), ((nat_lit 17), (V.d (D.int IntKind.i64 (↑(List.length es) : Int)))), ((nat_lit 18), (V.d (D.int IntKind.i64 (↑i : Int)))), ((nat_lit 19), (V.d (D.bool (decide ((↑i : Int) < (↑(List.length es) : Int))))))], h := [(Ob.cells [(V.d (D.int IntKind.i64 k)), (V.d (D.int IntKind.i64 a)), (V.d (D.int IntKind.i64 b)), (V.d (D.sl (List.flatMap (Ty.enc editT) es) (List.length es))), (V.d (D.sl (List.flatMap (Ty.enc i64) rs) (List.length rs))), (V.d (D.sl (List.flatMap (Ty.enc inlT) ns) (List.length ns)))])], og := [] })) 12 [(1, bf)] (cP hx0 nilE) (by kernel_rfl)).to (by ((try simp (disch := omega) only [wrapId, sizeOne, sizeStr, List.length_cons, List.length_nil, wrapU8, toNatAdd, toNatSucc] at *) <;> (try simp only [Int.toNat_natCast, beq_iff_eq, beq_eq_false_iff_ne, bne_iff_ne, bne_eq_false_iff_eq, ne_eq, Int.natCast_eq_zero, Int.natCast_inj] at *) <;> first | (simp (disch := omega) [Ty.enc, wrapId, toNatPred, toNatAdd, toNatSucc, sizeOne, sizeStr, List.length_cons, List.length_nil, wrapU8, ltF, ltT, Ty.slD, *]; done) | (subst_vars; simp (disch := omega) [Ty.enc, wrapId, toNatPred, toNatAdd, toNatSucc, sizeOne, sizeStr, List.length_cons, List.length_nil, wrapU8, ltF, ltT, Ty.slD, *]; done)))
set_option maxHeartbeats 4000000 in
theorem ha14 : ha14_T := by
  intro k a b es rs ns i hi h2
  have hx0 : (decide ((↑i : Int) < (↑(List.length es) : Int))) = false := by exact decide_eq_false (by omega)
  exact (pR (r := ((Ex.exit (nat_lit 0)), { s := [((nat_lit 1), (V.obj (nat_lit 0) (nat_lit 0))), ((nat_lit 3), (V.full [(D.int IntKind.i64 a), (D.int IntKind.i64 b)] (nat_lit 2))), ((nat_lit 16), (V.d (D.sl (List.flatMap (Ty.enc editT) es) (List.length es)))), ((nat_lit 17), (V.d (D.int IntKind.i64 (↑(List.length es) : Int)))), ((nat_lit 18), (V.d (D.int IntKind.i64 (↑i : Int)))), ((nat_lit 19), (V.d (D.bool (decide ((↑i : Int) < (↑(List.length es) : Int))))))], h := [(Ob.cells [(V.d (D.int IntKind.i64 k)), (V.d (D.int IntKind.i64 a)), (V.d (D.int IntKind.i64 b)), (V.d (D.sl (List.flatMap (Ty.enc editT) es) (List.length es))), (V.d (D.sl (List.flatMap (Ty.enc i64) rs) (List.length rs))), (V.d (D.sl (List.flatMap (Ty.enc inlT) ns) (List.length ns)))])], og := [] })) 12 [(1, bf)] (cP hx0 nilE) (by kernel_rfl)).to (by ((try simp (disch := omega) only [wrapId, sizeOne, sizeStr, List.length_cons, List.length_nil, wrapU8, toNatAdd, toNatSucc] at *) <;> (try simp only [Int.toNat_natCast, beq_iff_eq, beq_eq_false_iff_ne, bne_iff_ne, bne_eq_false_iff_eq, ne_eq, Int.natCast_eq_zero, Int.natCast_inj] at *) <;> first | (simp (disch := omega) [Ty.enc, wrapId, toNatPred, toNatAdd, toNatSucc, sizeOne, sizeStr, List.length_cons, List.length_nil, wrapU8, ltF, ltT, Ty.slD, *]; done) | (subst_vars; simp (disch := omega) [Ty.enc, wrapId, toNatPred, toNatAdd, toNatSucc, sizeOne, sizeStr, List.length_cons, List.length_nil, wrapU8, ltF, ltT, Ty.slD, *]; done)))
set_option maxHeartbeats 4000000 in
theorem ha21 : ha21_T := by
  intro k a b es rs ns l m i p q r u t e hl hm hi em
  have hx0 : (decide ((↑i : Int) < (↑(List.length ns) : Int))) = true := by exact decide_eq_true (by omega)
  exact (pC (st' := { s := [((nat_lit 1), (V.obj (nat_lit 0) (nat_lit 0))), ((nat_lit 3), (V.tail (nat_lit 3) (List.flatMap (Ty.enc i64) m) (List.length m))), ((nat_lit 35), (V.d (D.sl (List.flatMap (Ty.enc inlT) ns) (List.length ns)))), ((nat_lit 36), (V.d (D.int IntKind.i64 (↑(List.length ns) : Int)))), ((nat_lit 37), (V.d (D.int IntKind.i64 (IntKind.wrap IntKind.i64 ((↑i : Int) + (1 : Int))))))], h := [(Ob.cells [(V.d (D.int IntKind.i64 k)), (V.d (D.int IntKind.i64 a)), (V.d (D.int IntKind.i64 b)), (V.d (D.sl (List.flatMap (Ty.enc editT) es) (List.length es))), (V.d (D.sl (List.flatMap (Ty.enc i64) rs) (List.length rs))), (V.d (D.sl (List.flatMap (Ty.enc inlT) ns) (List.length ns)))])], og := [] }) 12 [(1, bt), (2, .v (V.d (D.ref (List.flatMap (Ty.enc inlT) ns) ((Int.toNat (↑i : Int)) * (5 : Nat))))), (3, .v (V.d (D.agg [(D.int IntKind.i64 p), (D.int IntKind.i64 q), (D.int IntKind.i64 r), (D.int IntKind.i64 u), (D.str t)]))), (8, .v (Ty.tailV i64 (3 : TypeId) m))] (cP (@appendI4 (l) (m) (p) (q) (r) (u) (by omega) em) (cP (@loadInlE (ns) ([(Ob.cells [(V.d (D.int IntKind.i64 k)), (V.d (D.int IntKind.i64 a)), (V.d (D.int IntKind.i64 b)), (V.d (D.sl (List.flatMap (Ty.enc editT) es) (List.length es))), (V.d (D.sl (List.flatMap (Ty.enc i64) rs) (List.length rs))), (V.d (D.sl (List.flatMap (Ty.enc inlT) ns) (List.length ns)))])]) (i) (p) (q) (r) (u) (t) hi e) (cP (@iaddrInl (ns) ((↑i : Int)) (by omega) (by omega)) (cP hx0 nilE)))) (by kernel_rfl)).to (by ((try simp (disch := omega) only [wrapId, sizeOne, sizeStr, List.length_cons, List.length_nil, wrapU8, toNatAdd, toNatSucc] at *) <;> (try simp only [Int.toNat_natCast, beq_iff_eq, beq_eq_false_iff_ne, bne_iff_ne, bne_eq_false_iff_eq, ne_eq, Int.natCast_eq_zero, Int.natCast_inj] at *) <;> first | (simp (disch := omega) [Ty.enc, wrapId, toNatPred, toNatAdd, toNatSucc, sizeOne, sizeStr, List.length_cons, List.length_nil, wrapU8, ltF, ltT, Ty.slD, *]; done) | (subst_vars; simp (disch := omega) [Ty.enc, wrapId, toNatPred, toNatAdd, toNatSucc, sizeOne, sizeStr, List.length_cons, List.length_nil, wrapU8, ltF, ltT, Ty.slD, *]; done)))
set_option maxHeartbeats 4000000 in
theorem ha22 : ha22_T := by
  intro k a b es rs ns m p q r u t e hl hi em
  have hx0 : (decide ((↑(0 : Nat) : Int) < (↑(List.length ns) : Int))) = true := by exact decide_eq_true (by omega)
  exact pC 12 [(1, bt), (2, .v (V.d (D.ref (List.flatMap (Ty.enc inlT) ns) (0 : Nat)))), (3, .v (V.d (D.agg [(D.int IntKind.i64 p), (D.int IntKind.i64 q), (D.int IntKind.i64 r), (D.int IntKind.i64 u), (D.str t)]))), (8, .v (Ty.tailV i64 (3 : TypeId) m))] (cP (@appendF4 (a) (b) (p) (q) (r) (u) (m) em) (cP (@loadInl0 (ns) ([(Ob.cells [(V.d (D.int IntKind.i64 k)), (V.d (D.int IntKind.i64 a)), (V.d (D.int IntKind.i64 b)), (V.d (D.sl (List.flatMap (Ty.enc editT) es) (List.length es))), (V.d (D.sl (List.flatMap (Ty.enc i64) rs) (List.length rs))), (V.d (D.sl (List.flatMap (Ty.enc inlT) ns) (List.length ns)))])]) (p) (q) (r) (u) (t) hi e) (cP (@iaddrInl0 (ns) hi) (cP hx0 nilE)))) (by kernel_rfl)
set_option maxHeartbeats 4000000 in
theorem ha23 : ha23_T := by
  intro k a b es rs ns l i hi h2
  have hx0 : (decide ((↑i : Int) < (↑(List.length ns) : Int))) = false := by exact decide_eq_false (by omega)
  exact (pR (r := ((Ex.exit (nat_lit 2)), { s := [((nat_lit 1), (V.obj (nat_lit 0) (nat_lit 0))), ((nat_lit 3), (V.tail (nat_lit 3) (List.flatMap (Ty.enc i64) l) (List.length l))), ((nat_lit 35), (V.d (D.sl (List.flatMap (Ty.enc inlT) ns) (List.length ns)))), ((nat_lit 36), (V.d (D.int IntKind.i64 (↑(List.length ns) : Int)))), ((nat_lit 37), (V.d (D.int IntKind.i64 (↑i : Int)))), ((nat_lit 38), (V.d (D.bool (decide ((↑i : Int) < (↑(List.length ns) : Int))))))], h := [(Ob.cells [(V.d (D.int IntKind.i64 k)), (V.d (D.int IntKind.i64 a)), (V.d (D.int IntKind.i64 b)), (V.d (D.sl (List.flatMap (Ty.enc editT) es) (List.length es))), (V.d (D.sl (List.flatMap (Ty.enc i64) rs) (List.length rs))), (V.d (D.sl (List.flatMap (Ty.enc inlT) ns) (List.length ns)))])], og := [] })) 12 [(1, bf)] (cP hx0 nilE) (by kernel_rfl)).to (by ((try simp (disch := omega) only [wrapId, sizeOne, sizeStr, List.length_cons, List.length_nil, wrapU8, toNatAdd, toNatSucc] at *) <;> (try simp only [Int.toNat_natCast, beq_iff_eq, beq_eq_false_iff_ne, bne_iff_ne, bne_eq_false_iff_eq, ne_eq, Int.natCast_eq_zero, Int.natCast_inj] at *) <;> first | (simp (disch := omega) [Ty.enc, wrapId, toNatPred, toNatAdd, toNatSucc, sizeOne, sizeStr, List.length_cons, List.length_nil, wrapU8, ltF, ltT, Ty.slD, *]; done) | (subst_vars; simp (disch := omega) [Ty.enc, wrapId, toNatPred, toNatAdd, toNatSucc, sizeOne, sizeStr, List.length_cons, List.length_nil, wrapU8, ltF, ltT, Ty.slD, *]; done)))
set_option maxHeartbeats 4000000 in
theorem ha24 : ha24_T := by
  intro k a b es rs ns i hi h2
  have hx0 : (decide ((↑i : Int) < (↑(List.length ns) : Int))) = false := by exact decide_eq_false (by omega)
  exact (pR (r := ((Ex.exit (nat_lit 2)), { s := [((nat_lit 1), (V.obj (nat_lit 0) (nat_lit 0))), ((nat_lit 3), (V.full [(D.int IntKind.i64 a), (D.int IntKind.i64 b)] (nat_lit 2))), ((nat_lit 35), (V.d (D.sl (List.flatMap (Ty.enc inlT) ns) (List.length ns)))), ((nat_lit 36), (V.d (D.int IntKind.i64 (↑(List.length ns) : Int)))), ((nat_lit 37), (V.d (D.int IntKind.i64 (↑i : Int)))), ((nat_lit 38), (V.d (D.bool (decide ((↑i : Int) < (↑(List.length ns) : Int))))))], h := [(Ob.cells [(V.d (D.int IntKind.i64 k)), (V.d (D.int IntKind.i64 a)), (V.d (D.int IntKind.i64 b)), (V.d (D.sl (List.flatMap (Ty.enc editT) es) (List.length es))), (V.d (D.sl (List.flatMap (Ty.enc i64) rs) (List.length rs))), (V.d (D.sl (List.flatMap (Ty.enc inlT) ns) (List.length ns)))])], og := [] })) 12 [(1, bf)] (cP hx0 nilE) (by kernel_rfl)).to (by ((try simp (disch := omega) only [wrapId, sizeOne, sizeStr, List.length_cons, List.length_nil, wrapU8, toNatAdd, toNatSucc] at *) <;> (try simp only [Int.toNat_natCast, beq_iff_eq, beq_eq_false_iff_ne, bne_iff_ne, bne_eq_false_iff_eq, ne_eq, Int.natCast_eq_zero, Int.natCast_inj] at *) <;> first | (simp (disch := omega) [Ty.enc, wrapId, toNatPred, toNatAdd, toNatSucc, sizeOne, sizeStr, List.length_cons, List.length_nil, wrapU8, ltF, ltT, Ty.slD, *]; done) | (subst_vars; simp (disch := omega) [Ty.enc, wrapId, toNatPred, toNatAdd, toNatSucc, sizeOne, sizeStr, List.length_cons, List.length_nil, wrapU8, ltF, ltT, Ty.slD, *]; done)))
set_option maxHeartbeats 4000000 in
theorem y11 : y11_T := by
  intro a b es rs ns s i p q t d1 d2 d3 ee ip iq ht e1 e2 e3 k1 k2 k3 s1 s2 s3 s4 s5 s6 q1 l1 q2 l2 q3 l3 q4 l4 q5 l5 q6 l6 hs hl hi
  have hx0 : (decide ((↑i : Int) < (↑(List.length es) : Int))) = true := by exact decide_eq_true (by omega)
  exact (pC (st' := { s := [((nat_lit 3), (V.d (D.str s6))), ((nat_lit 16), (V.d (D.sl (List.flatMap (Ty.enc editT) es) (List.length es)))), ((nat_lit 17), (V.d (D.int IntKind.i64 (↑(List.length es) : Int)))), ((nat_lit 18), (V.d (D.int IntKind.i64 (IntKind.wrap IntKind.i64 ((↑i : Int) + (1 : Int))))))], h := [(Ob.cells [(V.d (D.int IntKind.i64 (1 : Int))), (V.d (D.int IntKind.i64 a)), (V.d (D.int IntKind.i64 b)), (V.d (D.sl (List.flatMap (Ty.enc editT) es) (List.length es))), (V.d (D.sl (List.flatMap (Ty.enc i64) rs) (List.length rs))), (V.d (D.sl (List.flatMap (Ty.enc inlT) ns) (List.length ns)))])], og := [] }) 12 [(1, bt), (2, .v (V.d (D.ref (List.flatMap (Ty.enc editT) es) ((Int.toNat (↑i : Int)) * (3 : Nat))))), (3, .v (V.d (D.agg [(D.int IntKind.i64 p), (D.int IntKind.i64 q), (D.str t)]))), (4, .v (V.d (D.str s1))), (6, .v (V.d (D.str d1))), (7, .v (V.d (D.str s2))), (8, .v (V.d (D.str s3))), (10, .v (V.d (D.str d2))), (11, .v (V.d (D.str s4))), (12, .v (V.d (D.str s5))), (14, .v (V.d (D.str d3))), (15, .v (V.d (D.str s6)))] (cP (@addC (s5) (d3) (s6) (by omega) (by omega) q6) (cC (@woE (t) (d3) ht e3) (cP (@addC (s4) ([(32 : UInt8)]) (s5) (by omega) (by simp [*]) q5) (cP (@addC (s3) (d2) (s4) (by omega) (by omega) q4) (cC (@dgS (q) (d2) iq e2) (cP (@addC (s2) ([(32 : UInt8)]) (s3) (by omega) (by simp [*]) q3) (cP (@addC (s1) (d1) (s2) (by omega) (by omega) q2) (cC (@dgS (p) (d1) ip e1) (cP (@addC (s) ([(32 : UInt8)]) (s1) (by omega) (by simp [*]) q1) (cP (@loadEditE (es) ([(Ob.cells [(V.d (D.int IntKind.i64 (1 : Int))), (V.d (D.int IntKind.i64 a)), (V.d (D.int IntKind.i64 b)), (V.d (D.sl (List.flatMap (Ty.enc editT) es) (List.length es))), (V.d (D.sl (List.flatMap (Ty.enc i64) rs) (List.length rs))), (V.d (D.sl (List.flatMap (Ty.enc inlT) ns) (List.length ns)))])]) (i) (p) (q) (t) hi ee) (cP (@iaddrEdit (es) ((↑i : Int)) (by omega) (by omega)) (cP hx0 nilE)))))))))))) (by kernel_rfl)).to (by ((try simp (disch := omega) only [wrapId, sizeOne, sizeStr, List.length_cons, List.length_nil, wrapU8, toNatAdd, toNatSucc] at *) <;> (try simp only [Int.toNat_natCast, beq_iff_eq, beq_eq_false_iff_ne, bne_iff_ne, bne_eq_false_iff_eq, ne_eq, Int.natCast_eq_zero, Int.natCast_inj] at *) <;> first | (simp (disch := omega) [Ty.enc, wrapId, toNatPred, toNatAdd, toNatSucc, sizeOne, sizeStr, List.length_cons, List.length_nil, wrapU8, ltF, ltT, Ty.slD, *]; done) | (subst_vars; simp (disch := omega) [Ty.enc, wrapId, toNatPred, toNatAdd, toNatSucc, sizeOne, sizeStr, List.length_cons, List.length_nil, wrapU8, ltF, ltT, Ty.slD, *]; done)))
set_option maxHeartbeats 4000000 in
theorem y12 : y12_T := by
  intro a b es rs ns s i hi h2
  have hx0 : (decide ((↑i : Int) < (↑(List.length es) : Int))) = false := by exact decide_eq_false (by omega)
  exact (pR (r := ((Ex.exit (nat_lit 1)), { s := [((nat_lit 3), (V.d (D.str s))), ((nat_lit 16), (V.d (D.sl (List.flatMap (Ty.enc editT) es) (List.length es)))), ((nat_lit 17), (V.d (D.int IntKind.i64 (↑(List.length es) : Int)))), ((nat_lit 18), (V.d (D.int IntKind.i64 (↑i : Int)))), ((nat_lit 19), (V.d (D.bool (decide ((↑i : Int) < (↑(List.length es) : Int))))))], h := [(Ob.cells [(V.d (D.int IntKind.i64 (1 : Int))), (V.d (D.int IntKind.i64 a)), (V.d (D.int IntKind.i64 b)), (V.d (D.sl (List.flatMap (Ty.enc editT) es) (List.length es))), (V.d (D.sl (List.flatMap (Ty.enc i64) rs) (List.length rs))), (V.d (D.sl (List.flatMap (Ty.enc inlT) ns) (List.length ns)))])], og := [] })) 12 [(1, bf)] (cP hx0 nilE) (by kernel_rfl)).to (by ((try simp (disch := omega) only [wrapId, sizeOne, sizeStr, List.length_cons, List.length_nil, wrapU8, toNatAdd, toNatSucc] at *) <;> (try simp only [Int.toNat_natCast, beq_iff_eq, beq_eq_false_iff_ne, bne_iff_ne, bne_eq_false_iff_eq, ne_eq, Int.natCast_eq_zero, Int.natCast_inj] at *) <;> first | (simp (disch := omega) [Ty.enc, wrapId, toNatPred, toNatAdd, toNatSucc, sizeOne, sizeStr, List.length_cons, List.length_nil, wrapU8, ltF, ltT, Ty.slD, *]; done) | (subst_vars; simp (disch := omega) [Ty.enc, wrapId, toNatPred, toNatAdd, toNatSucc, sizeOne, sizeStr, List.length_cons, List.length_nil, wrapU8, ltF, ltT, Ty.slD, *]; done)))
set_option maxHeartbeats 4000000 in
theorem y21 : y21_T := by
  intro a b es rs ns s i p d1 ee ip e1 k1 s1 s2 q1 l1 q2 l2 hs hl hi
  have hx0 : (decide ((↑i : Int) < (↑(List.length rs) : Int))) = true := by exact decide_eq_true (by omega)
  exact (pC (st' := { s := [((nat_lit 1), (V.obj (nat_lit 0) (nat_lit 0))), ((nat_lit 6), (V.d (D.str s2))), ((nat_lit 79), (V.d (D.sl (List.flatMap (Ty.enc i64) rs) (List.length rs)))), ((nat_lit 80), (V.d (D.int IntKind.i64 (↑(List.length rs) : Int)))), ((nat_lit 81), (V.d (D.int IntKind.i64 (IntKind.wrap IntKind.i64 ((↑i : Int) + (1 : Int))))))], h := [(Ob.cells [(V.d (D.int IntKind.i64 (4 : Int))), (V.d (D.int IntKind.i64 a)), (V.d (D.int IntKind.i64 b)), (V.d (D.sl (List.flatMap (Ty.enc editT) es) (List.length es))), (V.d (D.sl (List.flatMap (Ty.enc i64) rs) (List.length rs))), (V.d (D.sl (List.flatMap (Ty.enc inlT) ns) (List.length ns)))])], og := [] }) 12 [(1, bt), (2, .v (V.d (D.ref (List.flatMap (Ty.enc i64) rs) ((Int.toNat (↑i : Int)) * (1 : Nat))))), (3, .v (V.d (D.int IntKind.i64 p))), (4, .v (V.d (D.str s1))), (5, .v (V.d (D.str d1))), (6, .v (V.d (D.str s2)))] (cP (@addC (s1) (d1) (s2) (by omega) (by omega) q2) (cC (@dgS (p) (d1) ip e1) (cP (@addC (s) ([(32 : UInt8), (45 : UInt8), (32 : UInt8)]) (s1) (by omega) (by simp [*]) q1) (cP (@loadIntE (rs) ([(Ob.cells [(V.d (D.int IntKind.i64 (4 : Int))), (V.d (D.int IntKind.i64 a)), (V.d (D.int IntKind.i64 b)), (V.d (D.sl (List.flatMap (Ty.enc editT) es) (List.length es))), (V.d (D.sl (List.flatMap (Ty.enc i64) rs) (List.length rs))), (V.d (D.sl (List.flatMap (Ty.enc inlT) ns) (List.length ns)))])]) (i) (p) hi ee) (cP (@iaddrInt (rs) ((↑i : Int)) (by omega) (by omega)) (cP hx0 nilE)))))) (by kernel_rfl)).to (by ((try simp (disch := omega) only [wrapId, sizeOne, sizeStr, List.length_cons, List.length_nil, wrapU8, toNatAdd, toNatSucc] at *) <;> (try simp only [Int.toNat_natCast, beq_iff_eq, beq_eq_false_iff_ne, bne_iff_ne, bne_eq_false_iff_eq, ne_eq, Int.natCast_eq_zero, Int.natCast_inj] at *) <;> first | (simp (disch := omega) [Ty.enc, wrapId, toNatPred, toNatAdd, toNatSucc, sizeOne, sizeStr, List.length_cons, List.length_nil, wrapU8, ltF, ltT, Ty.slD, *]; done) | (subst_vars; simp (disch := omega) [Ty.enc, wrapId, toNatPred, toNatAdd, toNatSucc, sizeOne, sizeStr, List.length_cons, List.length_nil, wrapU8, ltF, ltT, Ty.slD, *]; done)))
set_option maxHeartbeats 4000000 in
theorem y22 : y22_T := by
  intro a b es rs ns s i hi h2
  have hx0 : (decide ((↑i : Int) < (↑(List.length rs) : Int))) = false := by exact decide_eq_false (by omega)
  exact (pR (r := ((Ex.exit (nat_lit 3)), { s := [((nat_lit 1), (V.obj (nat_lit 0) (nat_lit 0))), ((nat_lit 6), (V.d (D.str s))), ((nat_lit 79), (V.d (D.sl (List.flatMap (Ty.enc i64) rs) (List.length rs)))), ((nat_lit 80), (V.d (D.int IntKind.i64 (↑(List.length rs) : Int)))), ((nat_lit 81), (V.d (D.int IntKind.i64 (↑i : Int)))), ((nat_lit 82), (V.d (D.bool (decide ((↑i : Int) < (↑(List.length rs) : Int))))))], h := [(Ob.cells [(V.d (D.int IntKind.i64 (4 : Int))), (V.d (D.int IntKind.i64 a)), (V.d (D.int IntKind.i64 b)), (V.d (D.sl (List.flatMap (Ty.enc editT) es) (List.length es))), (V.d (D.sl (List.flatMap (Ty.enc i64) rs) (List.length rs))), (V.d (D.sl (List.flatMap (Ty.enc inlT) ns) (List.length ns)))])], og := [] })) 12 [(1, bf)] (cP hx0 nilE) (by kernel_rfl)).to (by ((try simp (disch := omega) only [wrapId, sizeOne, sizeStr, List.length_cons, List.length_nil, wrapU8, toNatAdd, toNatSucc] at *) <;> (try simp only [Int.toNat_natCast, beq_iff_eq, beq_eq_false_iff_ne, bne_iff_ne, bne_eq_false_iff_eq, ne_eq, Int.natCast_eq_zero, Int.natCast_inj] at *) <;> first | (simp (disch := omega) [Ty.enc, wrapId, toNatPred, toNatAdd, toNatSucc, sizeOne, sizeStr, List.length_cons, List.length_nil, wrapU8, ltF, ltT, Ty.slD, *]; done) | (subst_vars; simp (disch := omega) [Ty.enc, wrapId, toNatPred, toNatAdd, toNatSucc, sizeOne, sizeStr, List.length_cons, List.length_nil, wrapU8, ltF, ltT, Ty.slD, *]; done)))
set_option maxHeartbeats 4000000 in
theorem y31 : y31_T := by
  intro a b es rs ns s i p q r u t d1 d2 d3 d4 d5 ee ip iq ir iu ht e1 e2 e3 e4 e5 k1 k2 k3 k4 k5 s1 s2 s3 s4 s5 s6 s7 s8 s9 s10 q1 l1 q2 l2 q3 l3 q4 l4 q5 l5 q6 l6 q7 l7 q8 l8 q9 l9 q10 l10 hs hl hi
  have hx0 : (decide ((↑i : Int) < (↑(List.length ns) : Int))) = true := by exact decide_eq_true (by omega)
  exact (pC (st' := { s := [((nat_lit 6), (V.d (D.str s10))), ((nat_lit 92), (V.d (D.sl (List.flatMap (Ty.enc inlT) ns) (List.length ns)))), ((nat_lit 93), (V.d (D.int IntKind.i64 (↑(List.length ns) : Int)))), ((nat_lit 94), (V.d (D.int IntKind.i64 (IntKind.wrap IntKind.i64 ((↑i : Int) + (1 : Int))))))], h := [(Ob.cells [(V.d (D.int IntKind.i64 (4 : Int))), (V.d (D.int IntKind.i64 a)), (V.d (D.int IntKind.i64 b)), (V.d (D.sl (List.flatMap (Ty.enc editT) es) (List.length es))), (V.d (D.sl (List.flatMap (Ty.enc i64) rs) (List.length rs))), (V.d (D.sl (List.flatMap (Ty.enc inlT) ns) (List.length ns)))])], og := [] }) 12 [(1, bt), (2, .v (V.d (D.ref (List.flatMap (Ty.enc inlT) ns) ((Int.toNat (↑i : Int)) * (5 : Nat))))), (3, .v (V.d (D.agg [(D.int IntKind.i64 p), (D.int IntKind.i64 q), (D.int IntKind.i64 r), (D.int IntKind.i64 u), (D.str t)]))), (4, .v (V.d (D.str s1))), (6, .v (V.d (D.str d1))), (7, .v (V.d (D.str s2))), (8, .v (V.d (D.str s3))), (10, .v (V.d (D.str d2))), (11, .v (V.d (D.str s4))), (12, .v (V.d (D.str s5))), (14, .v (V.d (D.str d3))), (15, .v (V.d (D.str s6))), (16, .v (V.d (D.str s7))), (18, .v (V.d (D.str d4))), (19, .v (V.d (D.str s8))), (20, .v (V.d (D.str s9))), (22, .v (V.d (D.str d5))), (23, .v (V.d (D.str s10)))] (cP (@addC (s9) (d5) (s10) (by omega) (by omega) q10) (cC (@woE (t) (d5) ht e5) (cP (@addC (s8) ([(32 : UInt8)]) (s9) (by omega) (by simp [*]) q9) (cP (@addC (s7) (d4) (s8) (by omega) (by omega) q8) (cC (@dgS (u) (d4) iu e4) (cP (@addC (s6) ([(32 : UInt8)]) (s7) (by omega) (by simp [*]) q7) (cP (@addC (s5) (d3) (s6) (by omega) (by omega) q6) (cC (@dgS (r) (d3) ir e3) (cP (@addC (s4) ([(32 : UInt8)]) (s5) (by omega) (by simp [*]) q5) (cP (@addC (s3) (d2) (s4) (by omega) (by omega) q4) (cC (@dgS (q) (d2) iq e2) (cP (@addC (s2) ([(32 : UInt8)]) (s3) (by omega) (by simp [*]) q3) (cP (@addC (s1) (d1) (s2) (by omega) (by omega) q2) (cC (@dgS (p) (d1) ip e1) (cP (@addC (s) ([(32 : UInt8), (43 : UInt8), (32 : UInt8)]) (s1) (by omega) (by simp [*]) q1) (cP (@loadInlE (ns) ([(Ob.cells [(V.d (D.int IntKind.i64 (4 : Int))), (V.d (D.int IntKind.i64 a)), (V.d (D.int IntKind.i64 b)), (V.d (D.sl (List.flatMap (Ty.enc editT) es) (List.length es))), (V.d (D.sl (List.flatMap (Ty.enc i64) rs) (List.length rs))), (V.d (D.sl (List.flatMap (Ty.enc inlT) ns) (List.length ns)))])]) (i) (p) (q) (r) (u) (t) hi ee) (cP (@iaddrInl (ns) ((↑i : Int)) (by omega) (by omega)) (cP hx0 nilE)))))))))))))))))) (by kernel_rfl)).to (by ((try simp (disch := omega) only [wrapId, sizeOne, sizeStr, List.length_cons, List.length_nil, wrapU8, toNatAdd, toNatSucc] at *) <;> (try simp only [Int.toNat_natCast, beq_iff_eq, beq_eq_false_iff_ne, bne_iff_ne, bne_eq_false_iff_eq, ne_eq, Int.natCast_eq_zero, Int.natCast_inj] at *) <;> first | (simp (disch := omega) [Ty.enc, wrapId, toNatPred, toNatAdd, toNatSucc, sizeOne, sizeStr, List.length_cons, List.length_nil, wrapU8, ltF, ltT, Ty.slD, *]; done) | (subst_vars; simp (disch := omega) [Ty.enc, wrapId, toNatPred, toNatAdd, toNatSucc, sizeOne, sizeStr, List.length_cons, List.length_nil, wrapU8, ltF, ltT, Ty.slD, *]; done)))
set_option maxHeartbeats 4000000 in
theorem y32 : y32_T := by
  intro a b es rs ns s i hi h2
  have hx0 : (decide ((↑i : Int) < (↑(List.length ns) : Int))) = false := by exact decide_eq_false (by omega)
  exact (pR (r := ((Ex.exit (nat_lit 5)), { s := [((nat_lit 6), (V.d (D.str s))), ((nat_lit 92), (V.d (D.sl (List.flatMap (Ty.enc inlT) ns) (List.length ns)))), ((nat_lit 93), (V.d (D.int IntKind.i64 (↑(List.length ns) : Int)))), ((nat_lit 94), (V.d (D.int IntKind.i64 (↑i : Int)))), ((nat_lit 95), (V.d (D.bool (decide ((↑i : Int) < (↑(List.length ns) : Int))))))], h := [(Ob.cells [(V.d (D.int IntKind.i64 (4 : Int))), (V.d (D.int IntKind.i64 a)), (V.d (D.int IntKind.i64 b)), (V.d (D.sl (List.flatMap (Ty.enc editT) es) (List.length es))), (V.d (D.sl (List.flatMap (Ty.enc i64) rs) (List.length rs))), (V.d (D.sl (List.flatMap (Ty.enc inlT) ns) (List.length ns)))])], og := [] })) 12 [(1, bf)] (cP hx0 nilE) (by kernel_rfl)).to (by ((try simp (disch := omega) only [wrapId, sizeOne, sizeStr, List.length_cons, List.length_nil, wrapU8, toNatAdd, toNatSucc] at *) <;> (try simp only [Int.toNat_natCast, beq_iff_eq, beq_eq_false_iff_ne, bne_iff_ne, bne_eq_false_iff_eq, ne_eq, Int.natCast_eq_zero, Int.natCast_inj] at *) <;> first | (simp (disch := omega) [Ty.enc, wrapId, toNatPred, toNatAdd, toNatSucc, sizeOne, sizeStr, List.length_cons, List.length_nil, wrapU8, ltF, ltT, Ty.slD, *]; done) | (subst_vars; simp (disch := omega) [Ty.enc, wrapId, toNatPred, toNatAdd, toNatSucc, sizeOne, sizeStr, List.length_cons, List.length_nil, wrapU8, ltF, ltT, Ty.slD, *]; done)))
end Go.Proofs.YtgiahagbmgnmkaaDoor.Script
/- Script: same as one; loops of Large, small, Has and of the reference's Line; their statements. -/
set_option linter.unusedVariables false
set_option linter.unusedSimpArgs false
namespace Go.Proofs.YtgiahagbmgnmkaaDoor.Script
open Go Pv G
theorem andF_false (p : Nat → Bool) : ∀ f i, andF p f i false = false
  | 0, _ => rfl
  | f + 1, i => by rw [andF, Bool.false_and, andF_false p f]
theorem andF_true (p : Nat → Bool) : ∀ f i, andF p f i true = true ↔ ∀ j, i ≤ j → j < i + f → p j = true
  | 0, i => ⟨fun _ j a b => by omega, fun _ => rfl⟩
  | f + 1, i => by
    rw [andF, Bool.true_and]
    cases h : p i with
    | true =>
      rw [andF_true p f (i + 1)]
      constructor
      · intro hh j a b
        by_cases e : j = i
        · subst e; exact h
        · exact hh j (by omega) (by omega)
      · intro hh j a b; exact hh j (by omega) (by omega)
    | false =>
      rw [andF_false]
      constructor
      · intro hh; cases hh
      · intro hh; have := hh i (Nat.le_refl _) (by omega); rw [h] at this; exact this
theorem eqEd_iff (x y : Edit) : eqEd x y = true ↔ x = y := by
  obtain ⟨a, b, t, ⟨⟩⟩ := x
  obtain ⟨a2, b2, t2, ⟨⟩⟩ := y
  unfold eqEd
  simp only [Bool.and_eq_true, beq_iff_eq, and_true]
  constructor
  · rintro ⟨rfl, rfl, rfl⟩; rfl
  · intro h; injection h with h1 h; injection h with h2 h; injection h with h3 _; exact ⟨h1, h2, h3⟩
theorem eqIn_iff (x y : Inl) : eqIn x y = true ↔ x = y := by
  obtain ⟨a, b, c, d, t, ⟨⟩⟩ := x
  obtain ⟨a2, b2, c2, d2, t2, ⟨⟩⟩ := y
  unfold eqIn
  simp only [Bool.and_eq_true, beq_iff_eq, and_true]
  constructor
  · rintro ⟨rfl, rfl, rfl, rfl, rfl⟩; rfl
  · intro h; injection h with h1 h; injection h with h2 h; injection h with h3 h; injection h with h4 h; injection h with h5 _; exact ⟨h1, h2, h3, h4, h5⟩
theorem listEq {α : Type} {l m : List α} (hl : m.length = l.length) (h : ∀ i (h1 : i < l.length) (h2 : i < m.length), l[i] = m[i]) : l = m := List.ext_getElem hl.symm h
def smE (es : List Edit) (rs : List Int) (ns : List Inl) (fs : List Edit) (qs : List Int) (ms : List Inl) : Bool :=
  andF (fun i => eqIn (inlT.nth ns i) (inlT.nth ms i)) ns.length 0 (andF (fun i => intAt rs i == intAt qs i) rs.length 0 (andF (fun i => eqEd (editT.nth es i) (editT.nth fs i)) es.length 0 true))
theorem smE_iff {es fs : List Edit} {rs qs : List Int} {ns ms : List Inl} (g1 : fs.length = es.length) (g2 : qs.length = rs.length) (g3 : ms.length = ns.length) : smE es rs ns fs qs ms = true ↔ es = fs ∧ rs = qs ∧ ns = ms := by
  unfold smE
  constructor
  · intro h
    cases h2 : andF (fun i => intAt rs i == intAt qs i) rs.length 0 (andF (fun i => eqEd (editT.nth es i) (editT.nth fs i)) es.length 0 true) with
    | false => rw [h2, andF_false] at h; cases h
    | true =>
      rw [h2] at h
      cases h1 : andF (fun i => eqEd (editT.nth es i) (editT.nth fs i)) es.length 0 true with
      | false => rw [h1, andF_false] at h2; cases h2
      | true =>
        rw [h1] at h2
        rw [andF_true] at h h1 h2
        refine ⟨listEq g1 fun i a b => ?_, listEq g2 fun i a b => ?_, listEq g3 fun i a b => ?_⟩
        · have := (eqEd_iff _ _).1 (h1 i (by omega) (by omega)); rwa [nthE a, nthE b] at this
        · have := h2 i (by omega) (by omega); simp only [beq_iff_eq] at this; rwa [nthI a, nthI b] at this
        · have := (eqIn_iff _ _).1 (h i (by omega) (by omega)); rwa [nthN a, nthN b] at this
  · rintro ⟨rfl, rfl, rfl⟩
    have e1 : andF (fun i => eqEd (editT.nth es i) (editT.nth es i)) es.length 0 true = true := (andF_true _ _ _).2 fun j _ _ => (eqEd_iff _ _).2 rfl
    have e2 : andF (fun i => intAt rs i == intAt rs i) rs.length 0 true = true := (andF_true _ _ _).2 fun j _ _ => by simp
    rw [e1, e2]
    exact (andF_true _ _ _).2 fun j _ _ => (eqIn_iff _ _).2 rfl
theorem smSelf : smSelf_T := fun k a b es rs ns h1 h2 h3 => by
  have := smY k a b es rs ns es rs ns _ _ _ h1 h2 h3 rfl rfl rfl rfl rfl rfl
  have e : smE es rs ns es rs ns = true := (smE_iff rfl rfl rfl).2 ⟨rfl, rfl, rfl⟩
  unfold smE at e
  rwa [e] at this
theorem smDiff (k a b : Int) (es : List Edit) (rs : List Int) (ns : List Inl) (k2 a2 b2 : Int) (fs : List Edit) (qs : List Int) (ms : List Inl) (h1 : fs.length ≤ 1000000) (h2 : qs.length ≤ 1000000) (h3 : ms.length ≤ 1000000)
    (h : ¬ ((k, a, b, es, rs, ns) : Opn) = (k2, a2, b2, fs, qs, ms)) : Ans X0 FSe [.d (opR k a b es rs ns), .d (opR k2 a2 b2 fs qs ms)] (.d (.bool false)) := by
  by_cases e1 : k = k2
  · subst e1
    by_cases e2 : a = a2
    · subst e2
      by_cases e3 : b = b2
      · subst e3
        by_cases l1 : es.length = fs.length
        · by_cases l2 : rs.length = qs.length
          · by_cases l3 : ns.length = ms.length
            · have := smY k a b es rs ns fs qs ms _ _ _ (by omega) (by omega) (by omega) l1.symm l2.symm l3.symm rfl rfl rfl
              have e : smE es rs ns fs qs ms = false := by
                cases hb : smE es rs ns fs qs ms with
                | false => rfl
                | true => obtain ⟨rfl, rfl, rfl⟩ := (smE_iff l1.symm l2.symm l3.symm).1 hb; exact absurd rfl h
              unfold smE at e
              rwa [e] at this
            · exact smN6 k a b es rs ns 0 0 0 fs qs ms l1 l2 l3
          · exact smN5 k a b es rs ns 0 0 0 fs qs ms l1 l2
        · exact smN4 k a b es rs ns 0 0 0 fs qs ms l1
      · exact smN3 k a b es rs ns 0 0 b2 fs qs ms e3
    · exact smN2 k a b es rs ns 0 a2 b2 fs qs ms e2
  · exact smN1 k a b es rs ns k2 a2 b2 fs qs ms e1
/- Large -/
def long1 (x : Edit) : Bool := decide (400 < x.2.2.1.length)
def sum1 (l : List Edit) : Nat := (l.map fun x => x.2.2.1.length + 1).sum
def long2 (x : Inl) : Bool := decide (200 < x.2.2.2.2.1.length)
def sum2 (l : List Inl) : Nat := (l.map fun x => x.2.2.2.2.1.length + 1).sum
/- small -/
def smallB (x : Int) : Bool := decide (-999999999999 ≤ x) && decide (x ≤ 999999999999)
def smallL (l : List Int) : Bool := l.all smallB
theorem smallB_iff (x : Int) : smallB x = true ↔ Sml x := by unfold smallB Sml; rw [Bool.and_eq_true, decide_eq_true_iff, decide_eq_true_iff]
theorem slC (l : List Int) (hl : l.length ≤ 1000000) : ∀ f i m, i + f = l.length → f < m →
    ((l.drop i).all smallB = true → LpC X0 0 (ntOf X0 FSl) (lpKeep X0 FSl 0) (lpBody X0 FSl 0) 0 m (stK l i) (.exit 0, stKx l l.length)) ∧
    ((l.drop i).all smallB = false → LpC X0 0 (ntOf X0 FSl) (lpKeep X0 FSl 0) (lpBody X0 FSl 0) 0 m (stK l i) (.ret, stKr)) := by
  intro f
  induction f with
  | zero =>
    intro i m hi hm
    obtain rfl : i = l.length := by omega
    obtain ⟨m, rfl⟩ : ∃ x, m = x + 1 := ⟨m - 1, by omega⟩
    rw [List.drop_of_length_le (Nat.le_refl _)]
    exact ⟨fun _ => LpC.last (sl4 l l.length (by omega) hl) (by simp), fun h => by cases h⟩
  | succ f ih =>
    intro i m hi hm
    obtain ⟨m, rfl⟩ : ∃ x, m = x + 1 := ⟨m - 1, by omega⟩
    have hlt : i < l.length := by omega
    have e := nthI hlt
    rw [List.drop_eq_getElem_cons hlt, List.all_cons]
    cases hb : smallB l[i] with
    | true =>
      obtain ⟨a, b⟩ := (smallB_iff _).1 hb
      have nxt := ih (i + 1) m (by omega) (by omega)
      rw [Bool.true_and]
      exact ⟨fun h => LpC.next (sl1 l i _ hl hlt e a b) (nxt.1 h), fun h => LpC.next (sl1 l i _ hl hlt e a b) (nxt.2 h)⟩
    | false =>
      rw [Bool.false_and]
      refine ⟨fun h => (by cases h), fun _ => ?_⟩
      by_cases h1 : l[i] < -999999999999
      · exact LpC.last (sl3 l i _ hl hlt e h1) (by simp)
      · refine LpC.last (sl2 l i _ hl hlt e ?_) (by simp)
        apply Classical.byContradiction
        intro h2
        have := (smallB_iff l[i]).2 ⟨by omega, by omega⟩
        rw [hb] at this; cases this
def slYL_T : Prop := ∀ (l : List Int) (hl : l.length ≤ 1000000) (h : smallL l = true), Lp X0 0 (ntOf X0 FSl) (lpKeep X0 FSl 0) (lpBody X0 FSl 0) 0 FUEL (stK l 0) (.exit 0, stKx l l.length)
theorem slYL : slYL_T := fun l hl h => LpC.start (m := 1152921504606846975) ((slC l hl l.length 0 _ (by omega) (by omega)).1 h) (by kernel_rfl)
def slNL_T : Prop := ∀ (l : List Int) (hl : l.length ≤ 1000000) (h : smallL l = false), Lp X0 0 (ntOf X0 FSl) (lpKeep X0 FSl 0) (lpBody X0 FSl 0) 0 FUEL (stK l 0) (.ret, stKr)
theorem slNL : slNL_T := fun l hl h => LpC.start (m := 1152921504606846975) ((slC l hl l.length 0 _ (by omega) (by omega)).2 h) (by kernel_rfl)
def slY_T : Prop := ∀ (l : List Int) (hl : l.length ≤ 1000000) (h : smallL l = true), Ans X0 FSl [.d (i64.slD l)] (.d (.bool true))
def slN_T : Prop := ∀ (l : List Int) (hl : l.length ≤ 1000000) (h : smallL l = false), Ans X0 FSl [.d (i64.slD l)] (.d (.bool false))
theorem sfY0 (a b : Int) (h : smallL [a, b] = true) : Sml a ∧ Sml b := by
  unfold smallL at h
  simp only [List.all_cons, List.all_nil, Bool.and_true, Bool.and_eq_true, smallB_iff] at h
  exact h
def sfY_T : Prop := ∀ (a b : Int) (h : smallL [a, b] = true), Ans X0 FSl [.full [.int .i64 a, .int .i64 b] 2] (.d (.bool true))
theorem sfY : sfY_T := fun a b h => by
  obtain ⟨h1, h2⟩ := sfY0 a b h
  exact sf1 a b h1 h2 h1.1 h1.2 h2.1 h2.2
def sfN_T : Prop := ∀ (a b : Int) (h : smallL [a, b] = false), Ans X0 FSl [.full [.int .i64 a, .int .i64 b] 2] (.d (.bool false))
theorem sfN : sfN_T := fun a b h => by
  by_cases h1 : 999999999999 < a
  · exact sf2 a b h1
  by_cases h2 : a < -999999999999
  · exact sf3 a b h2
  by_cases h3 : 999999999999 < b
  · exact sf4 a b (by omega) (by omega) h3
  by_cases h4 : b < -999999999999
  · exact sf5 a b (by omega) (by omega) h4
  have : smallL [a, b] = true := by
    unfold smallL
    simp only [List.all_cons, List.all_nil, Bool.and_true, Bool.and_eq_true, smallB_iff]
    exact ⟨⟨by omega, by omega⟩, ⟨by omega, by omega⟩⟩
  rw [this] at h; cases h
/- Has -/
def neE (x : Edit) : List Int := [x.1, x.2.1]
def neN (x : Inl) : List Int := [x.1, x.2.1, x.2.2.1, x.2.2.2.1]
theorem flatDropI {α : Type} (f : α → List Int) (l : List α) {i : Nat} (h : i < l.length) : (l.drop i).flatMap f = f l[i] ++ (l.drop (i + 1)).flatMap f := by
  rw [List.drop_eq_getElem_cons h, List.flatMap_cons]
theorem haC1 (k a b : Int) (es : List Edit) (rs : List Int) (ns : List Inl) (hl : es.length ≤ 70) : ∀ f i o m, i + f = es.length → o.length ≤ 10 * i + 1000 → f < m → LpC X0 0 (ntOf X0 FHa) (lpKeep X0 FHa 0) (lpBody X0 FHa 0) 1 m (stH1 k a b es rs ns o i) (.exit 0, stH1x k a b es rs ns (o ++ (es.drop i).flatMap neE) es.length) := by
  intro f
  induction f with
  | zero =>
    intro i o m hi ho hm
    obtain rfl : i = es.length := by omega
    obtain ⟨m, rfl⟩ : ∃ x, m = x + 1 := ⟨m - 1, by omega⟩
    rw [List.drop_of_length_le (Nat.le_refl _), List.flatMap_nil, List.append_nil]
    exact LpC.last (ha13 k a b es rs ns o es.length (by omega) (by omega)) (by simp)
  | succ f ih =>
    intro i o m hi ho hm
    obtain ⟨m, rfl⟩ : ∃ x, m = x + 1 := ⟨m - 1, by omega⟩
    have hlt : i < es.length := by omega
    have nxt := ih (i + 1) (o ++ neE es[i]) m (by omega) (by simp [neE]; omega) (by omega)
    rw [List.append_assoc, ← flatDropI neE es hlt] at nxt
    exact LpC.next (ha11 k a b es rs ns o _ i es[i].1 es[i].2.1 es[i].2.2.1 (nthE hlt) (by omega) (by omega) hlt rfl) nxt
theorem haF1 (k a b : Int) (es : List Edit) (rs : List Int) (ns : List Inl) (hl : es.length ≤ 70) (h0 : 0 < es.length) (m : Nat) (hm : es.length < m) : LpC X0 0 (ntOf X0 FHa) (lpKeep X0 FHa 0) (lpBody X0 FHa 0) 1 m (stH1f k a b es rs ns 0) (.exit 0, stH1x k a b es rs ns ([a, b] ++ es.flatMap neE) es.length) := by
  obtain ⟨m, rfl⟩ : ∃ x, m = x + 1 := ⟨m - 1, by omega⟩
  have nxt := haC1 k a b es rs ns hl (es.length - 1) 1 ([a, b] ++ neE es[0]) m (by omega) (by simp [neE]) (by omega)
  have e := flatDropI neE es h0
  rw [List.drop_zero] at e
  rw [List.append_assoc, ← e] at nxt
  exact LpC.next (ha12 k a b es rs ns _ es[0].1 es[0].2.1 es[0].2.2.1 (nthE h0) (by omega) h0 rfl) nxt
theorem haZ1 (k a b : Int) (es : List Edit) (rs : List Int) (ns : List Inl) (h : es.length = 0) (m : Nat) : LpC X0 0 (ntOf X0 FHa) (lpKeep X0 FHa 0) (lpBody X0 FHa 0) 1 (m + 1) (stH1f k a b es rs ns 0) (.exit 0, stH1fx k a b es rs ns 0) := LpC.last (ha14 k a b es rs ns 0 (by omega) (by omega)) (by simp)
theorem haC2 (k a b : Int) (es : List Edit) (rs : List Int) (ns : List Inl) (hl : ns.length ≤ 70) : ∀ f i o m, i + f = ns.length → o.length ≤ 10 * i + 1000 → f < m → LpC X0 0 (ntOf X0 FHa) (lpKeep X0 FHa 1) (lpBody X0 FHa 1) 1 m (stH2 k a b es rs ns o i) (.exit 2, stH2x k a b es rs ns (o ++ (ns.drop i).flatMap neN) ns.length) := by
  intro f
  induction f with
  | zero =>
    intro i o m hi ho hm
    obtain rfl : i = ns.length := by omega
    obtain ⟨m, rfl⟩ : ∃ x, m = x + 1 := ⟨m - 1, by omega⟩
    rw [List.drop_of_length_le (Nat.le_refl _), List.flatMap_nil, List.append_nil]
    exact LpC.last (ha23 k a b es rs ns o ns.length (by omega) (by omega)) (by simp)
  | succ f ih =>
    intro i o m hi ho hm
    obtain ⟨m, rfl⟩ : ∃ x, m = x + 1 := ⟨m - 1, by omega⟩
    have hlt : i < ns.length := by omega
    have nxt := ih (i + 1) (o ++ neN ns[i]) m (by omega) (by simp [neN]; omega) (by omega)
    rw [List.append_assoc, ← flatDropI neN ns hlt] at nxt
    exact LpC.next (ha21 k a b es rs ns o _ i ns[i].1 ns[i].2.1 ns[i].2.2.1 ns[i].2.2.2.1 ns[i].2.2.2.2.1 (nthN hlt) (by omega) (by omega) hlt rfl) nxt
theorem haF2 (k a b : Int) (es : List Edit) (rs : List Int) (ns : List Inl) (hl : ns.length ≤ 70) (h0 : 0 < ns.length) (m : Nat) (hm : ns.length < m) : LpC X0 0 (ntOf X0 FHa) (lpKeep X0 FHa 1) (lpBody X0 FHa 1) 1 m (stH2f k a b es rs ns 0) (.exit 2, stH2x k a b es rs ns ([a, b] ++ ns.flatMap neN) ns.length) := by
  obtain ⟨m, rfl⟩ : ∃ x, m = x + 1 := ⟨m - 1, by omega⟩
  have nxt := haC2 k a b es rs ns hl (ns.length - 1) 1 ([a, b] ++ neN ns[0]) m (by omega) (by simp [neN]) (by omega)
  have e := flatDropI neN ns h0
  rw [List.drop_zero] at e
  rw [List.append_assoc, ← e] at nxt
  exact LpC.next (ha22 k a b es rs ns _ ns[0].1 ns[0].2.1 ns[0].2.2.1 ns[0].2.2.2.1 ns[0].2.2.2.2.1 (nthN h0) (by omega) h0 rfl) nxt
def haL2_T : Prop := ∀ (k a b : Int) (es : List Edit) (rs : List Int) (ns : List Inl) (o m : List Int) (hl : ns.length ≤ 70) (ho : o.length ≤ 1000) (e : o ++ ns.flatMap neN = m), Lp X0 0 (ntOf X0 FHa) (lpKeep X0 FHa 1) (lpBody X0 FHa 1) 1 FUEL (stH2 k a b es rs ns o 0) (.exit 2, stH2x k a b es rs ns m ns.length)
theorem haL2 : haL2_T := fun k a b es rs ns o m hl ho e => by
  subst e
  exact LpC.start (m := 1152921504606846975) (haC2 k a b es rs ns hl ns.length 0 o _ (by omega) (by omega) (by omega)) (by kernel_rfl)
theorem haZ2 (k a b : Int) (es : List Edit) (rs : List Int) (ns : List Inl) (h : ns.length = 0) (m : Nat) : LpC X0 0 (ntOf X0 FHa) (lpKeep X0 FHa 1) (lpBody X0 FHa 1) 1 (m + 1) (stH2f k a b es rs ns 0) (.exit 2, stH2fx k a b es rs ns 0) := LpC.last (ha24 k a b es rs ns 0 (by omega) (by omega)) (by simp)
def haA1_T : Prop := ∀ (k a b : Int) (es : List Edit) (rs : List Int) (ns : List Inl) (m : List Int) (hl : es.length ≤ 70) (h0 : 0 < es.length) (e : [a, b] ++ es.flatMap neE = m), Lp X0 0 (ntOf X0 FHa) (lpKeep X0 FHa 0) (lpBody X0 FHa 0) 1 FUEL (stH1f k a b es rs ns 0) (.exit 0, stH1x k a b es rs ns m es.length)
theorem haA1 : haA1_T := fun k a b es rs ns m hl h0 e => by
  subst e
  exact LpC.start (m := 1152921504606846975) (haF1 k a b es rs ns hl h0 _ (by omega)) (by kernel_rfl)
def haA0_T : Prop := ∀ (k a b : Int) (rs : List Int) (ns : List Inl), Lp X0 0 (ntOf X0 FHa) (lpKeep X0 FHa 0) (lpBody X0 FHa 0) 1 FUEL (stH1f k a b [] rs ns 0) (.exit 0, stH1fx k a b [] rs ns 0)
theorem haA0 : haA0_T := fun k a b rs ns => LpC.start (m := 1152921504606846975) (haZ1 k a b [] rs ns rfl 1152921504606846974) (by kernel_rfl)
def haL2e_T : Prop := ∀ (k a b : Int) (rs : List Int) (ns : List Inl) (o m : List Int) (hl : ns.length ≤ 70) (ho : o.length ≤ 1000) (e : o ++ ns.flatMap neN = m), Lp X0 0 (ntOf X0 FHa) (lpKeep X0 FHa 1) (lpBody X0 FHa 1) 1 FUEL (stH2 k a b [] rs ns o 0) (.exit 2, stH2x k a b [] rs ns m ns.length)
theorem haL2e : haL2e_T := fun k a b rs ns o m hl ho e => haL2 k a b [] rs ns o m hl ho e
def haB1_T : Prop := ∀ (k a b : Int) (ns : List Inl) (m : List Int) (hl : ns.length ≤ 70) (h0 : 0 < ns.length) (e : [a, b] ++ ns.flatMap neN = m), Lp X0 0 (ntOf X0 FHa) (lpKeep X0 FHa 1) (lpBody X0 FHa 1) 1 FUEL (stH2f k a b [] [] ns 0) (.exit 2, stH2x k a b [] [] ns m ns.length)
theorem haB1 : haB1_T := fun k a b ns m hl h0 e => by
  subst e
  exact LpC.start (m := 1152921504606846975) (haF2 k a b [] [] ns hl h0 _ (by omega)) (by kernel_rfl)
def haB0_T : Prop := ∀ (k a b : Int), Lp X0 0 (ntOf X0 FHa) (lpKeep X0 FHa 1) (lpBody X0 FHa 1) 1 FUEL (stH2f k a b [] [] [] 0) (.exit 2, stH2fx k a b [] [] [] 0)
theorem haB0 : haB0_T := fun k a b => LpC.start (m := 1152921504606846975) (haZ2 k a b [] [] [] rfl 1152921504606846974) (by kernel_rfl)
def hcA0_T : Prop := ∀ (k a b : Int) (es : List Edit) (rs : List Int) (ns : List Inl) (m1 m2 m3 : List Int) (hl : es.length ≤ 70) (h0 : 0 < es.length) (hr : rs.length ≤ 70) (hr2 : rs.length ≤ 1000000) (hn : ns.length ≤ 70) (q1 : [a, b] ++ es.flatMap neE = m1) (l1 : m1.length ≤ 300) (q2 : m1 ++ rs = m2) (l2 : m2.length ≤ 1000) (q3 : m2 ++ ns.flatMap neN = m3) (l3 : m3.length ≤ 1000000) (hs : smallL m3 = false), Ans X0 FHa [.d (opR k a b es rs ns)] (.d (.bool false))
def hcA1_T : Prop := ∀ (k a b : Int) (es : List Edit) (rs : List Int) (ns : List Inl) (m1 m2 m3 : List Int) (hl : es.length ≤ 70) (h0 : 0 < es.length) (hr : rs.length ≤ 70) (hr2 : rs.length ≤ 1000000) (hn : ns.length ≤ 70) (q1 : [a, b] ++ es.flatMap neE = m1) (l1 : m1.length ≤ 300) (q2 : m1 ++ rs = m2) (l2 : m2.length ≤ 1000) (q3 : m2 ++ ns.flatMap neN = m3) (l3 : m3.length ≤ 1000000) (hs : smallL m3 = true) (hk : k ≠ 1), Ans X0 FHa [.d (opR k a b es rs ns)] (.d (.bool false))
def hcA2_T : Prop := ∀ (k a b : Int) (es : List Edit) (rs : List Int) (ns : List Inl) (m1 m2 m3 : List Int) (hl : es.length ≤ 70) (h0 : 0 < es.length) (hr : rs.length ≤ 70) (hr2 : rs.length ≤ 1000000) (hn : ns.length ≤ 70) (q1 : [a, b] ++ es.flatMap neE = m1) (l1 : m1.length ≤ 300) (q2 : m1 ++ rs = m2) (l2 : m2.length ≤ 1000) (q3 : m2 ++ ns.flatMap neN = m3) (l3 : m3.length ≤ 1000000) (hs : smallL m3 = true) (hk : k = 1) (h : 0 < rs.length + ns.length), Ans X0 FHa [.d (opR k a b es rs ns)] (.d (.bool false))
def hcA3_T : Prop := ∀ (k a b : Int) (es : List Edit) (rs : List Int) (ns : List Inl) (m1 m2 m3 : List Int) (hl : es.length ≤ 70) (h0 : 0 < es.length) (hr : rs.length ≤ 70) (hr2 : rs.length ≤ 1000000) (hn : ns.length ≤ 70) (q1 : [a, b] ++ es.flatMap neE = m1) (l1 : m1.length ≤ 300) (q2 : m1 ++ rs = m2) (l2 : m2.length ≤ 1000) (q3 : m2 ++ ns.flatMap neN = m3) (l3 : m3.length ≤ 1000000) (hs : smallL m3 = true) (hk : k = 1) (h1 : rs.length = 0) (h2 : ns.length = 0) (h : a ≠ 0), Ans X0 FHa [.d (opR k a b es rs ns)] (.d (.bool false))
def hcA4_T : Prop := ∀ (k a b : Int) (es : List Edit) (rs : List Int) (ns : List Inl) (m1 m2 m3 : List Int) (hl : es.length ≤ 70) (h0 : 0 < es.length) (hr : rs.length ≤ 70) (hr2 : rs.length ≤ 1000000) (hn : ns.length ≤ 70) (q1 : [a, b] ++ es.flatMap neE = m1) (l1 : m1.length ≤ 300) (q2 : m1 ++ rs = m2) (l2 : m2.length ≤ 1000) (q3 : m2 ++ ns.flatMap neN = m3) (l3 : m3.length ≤ 1000000) (hs : smallL m3 = true) (hk : k = 1) (h1 : rs.length = 0) (h2 : ns.length = 0) (ha : a = 0) (h : b ≠ 0), Ans X0 FHa [.d (opR k a b es rs ns)] (.d (.bool false))
def hcA5_T : Prop := ∀ (k a b : Int) (es : List Edit) (rs : List Int) (ns : List Inl) (m1 m2 m3 : List Int) (hl : es.length ≤ 70) (h0 : 0 < es.length) (hr : rs.length ≤ 70) (hr2 : rs.length ≤ 1000000) (hn : ns.length ≤ 70) (q1 : [a, b] ++ es.flatMap neE = m1) (l1 : m1.length ≤ 300) (q2 : m1 ++ rs = m2) (l2 : m2.length ≤ 1000) (q3 : m2 ++ ns.flatMap neN = m3) (l3 : m3.length ≤ 1000000) (hs : smallL m3 = true) (hk : k = 1) (h1 : rs.length = 0) (h2 : ns.length = 0) (ha : a = 0) (hb : b = 0), Ans X0 FHa [.d (opR k a b es rs ns)] (.d (.bool true))
def hcB0_T : Prop := ∀ (k a b : Int) (rs : List Int) (ns : List Inl) (m2 m3 : List Int) (h0 : 0 < rs.length) (hr : rs.length ≤ 70) (hr2 : rs.length ≤ 1000000) (hn : ns.length ≤ 70) (q2 : [a, b] ++ rs = m2) (l2 : m2.length ≤ 1000) (q3 : m2 ++ ns.flatMap neN = m3) (l3 : m3.length ≤ 1000000) (hs : smallL m3 = false), Ans X0 FHa [.d (opR k a b [] rs ns)] (.d (.bool false))
def hcB1_T : Prop := ∀ (k a b : Int) (rs : List Int) (ns : List Inl) (m2 m3 : List Int) (h0 : 0 < rs.length) (hr : rs.length ≤ 70) (hr2 : rs.length ≤ 1000000) (hn : ns.length ≤ 70) (q2 : [a, b] ++ rs = m2) (l2 : m2.length ≤ 1000) (q3 : m2 ++ ns.flatMap neN = m3) (l3 : m3.length ≤ 1000000) (hs : smallL m3 = true) (hk : k ≠ 4), Ans X0 FHa [.d (opR k a b [] rs ns)] (.d (.bool false))
def hcB2_T : Prop := ∀ (k a b : Int) (rs : List Int) (ns : List Inl) (m2 m3 : List Int) (h0 : 0 < rs.length) (hr : rs.length ≤ 70) (hr2 : rs.length ≤ 1000000) (hn : ns.length ≤ 70) (q2 : [a, b] ++ rs = m2) (l2 : m2.length ≤ 1000) (q3 : m2 ++ ns.flatMap neN = m3) (l3 : m3.length ≤ 1000000) (hs : smallL m3 = true) (hk : k = 4) (h : a ≠ 0), Ans X0 FHa [.d (opR k a b [] rs ns)] (.d (.bool false))
def hcB3_T : Prop := ∀ (k a b : Int) (rs : List Int) (ns : List Inl) (m2 m3 : List Int) (h0 : 0 < rs.length) (hr : rs.length ≤ 70) (hr2 : rs.length ≤ 1000000) (hn : ns.length ≤ 70) (q2 : [a, b] ++ rs = m2) (l2 : m2.length ≤ 1000) (q3 : m2 ++ ns.flatMap neN = m3) (l3 : m3.length ≤ 1000000) (hs : smallL m3 = true) (hk : k = 4) (ha : a = 0) (h : b ≠ 0), Ans X0 FHa [.d (opR k a b [] rs ns)] (.d (.bool false))
def hcB4_T : Prop := ∀ (k a b : Int) (rs : List Int) (ns : List Inl) (m2 m3 : List Int) (h0 : 0 < rs.length) (hr : rs.length ≤ 70) (hr2 : rs.length ≤ 1000000) (hn : ns.length ≤ 70) (q2 : [a, b] ++ rs = m2) (l2 : m2.length ≤ 1000) (q3 : m2 ++ ns.flatMap neN = m3) (l3 : m3.length ≤ 1000000) (hs : smallL m3 = true) (hk : k = 4) (ha : a = 0) (hb : b = 0), Ans X0 FHa [.d (opR k a b [] rs ns)] (.d (.bool true))
def hcC0_T : Prop := ∀ (k a b : Int) (ns : List Inl) (m3 : List Int) (h0 : 0 < ns.length) (hn : ns.length ≤ 70) (q3 : [a, b] ++ ns.flatMap neN = m3) (l3 : m3.length ≤ 1000000) (hs : smallL m3 = false), Ans X0 FHa [.d (opR k a b [] [] ns)] (.d (.bool false))
def hcC1_T : Prop := ∀ (k a b : Int) (ns : List Inl) (m3 : List Int) (h0 : 0 < ns.length) (hn : ns.length ≤ 70) (q3 : [a, b] ++ ns.flatMap neN = m3) (l3 : m3.length ≤ 1000000) (hs : smallL m3 = true) (hk : k ≠ 4), Ans X0 FHa [.d (opR k a b [] [] ns)] (.d (.bool false))
def hcC2_T : Prop := ∀ (k a b : Int) (ns : List Inl) (m3 : List Int) (h0 : 0 < ns.length) (hn : ns.length ≤ 70) (q3 : [a, b] ++ ns.flatMap neN = m3) (l3 : m3.length ≤ 1000000) (hs : smallL m3 = true) (hk : k = 4) (h : a ≠ 0), Ans X0 FHa [.d (opR k a b [] [] ns)] (.d (.bool false))
def hcC3_T : Prop := ∀ (k a b : Int) (ns : List Inl) (m3 : List Int) (h0 : 0 < ns.length) (hn : ns.length ≤ 70) (q3 : [a, b] ++ ns.flatMap neN = m3) (l3 : m3.length ≤ 1000000) (hs : smallL m3 = true) (hk : k = 4) (ha : a = 0) (h : b ≠ 0), Ans X0 FHa [.d (opR k a b [] [] ns)] (.d (.bool false))
def hcC4_T : Prop := ∀ (k a b : Int) (ns : List Inl) (m3 : List Int) (h0 : 0 < ns.length) (hn : ns.length ≤ 70) (q3 : [a, b] ++ ns.flatMap neN = m3) (l3 : m3.length ≤ 1000000) (hs : smallL m3 = true) (hk : k = 4) (ha : a = 0) (hb : b = 0), Ans X0 FHa [.d (opR k a b [] [] ns)] (.d (.bool true))
def hcD0_T : Prop := ∀ (k a b : Int) (hs : smallL [a, b] = false), Ans X0 FHa [.d (opR k a b [] [] [])] (.d (.bool false))
def hcD1_T : Prop := ∀ (k a b : Int)  (hs : smallL [a, b] = true) (h : k < 1), Ans X0 FHa [.d (opR k a b [] [] [])] (.d (.bool false))
def hcD2_T : Prop := ∀ (k a b : Int)  (hs : smallL [a, b] = true) (h : 8 < k), Ans X0 FHa [.d (opR k a b [] [] [])] (.d (.bool false))
def hcD3_T : Prop := ∀ (k a b : Int)  (hs : smallL [a, b] = true)(hk1 : 1 ≤ k) (hk8 : k ≤ 8) (n2 : k ≠ 2) (n3 : k ≠ 3) (n5 : k ≠ 5) (n6 : k ≠ 6) (h : a ≠ 0), Ans X0 FHa [.d (opR k a b [] [] [])] (.d (.bool false))
def hcD4_T : Prop := ∀ (k a b : Int)  (hs : smallL [a, b] = true)(hk1 : 1 ≤ k) (hk8 : k ≤ 8) (n2 : k ≠ 2) (n3 : k ≠ 3) (n5 : k ≠ 5) (n6 : k ≠ 6) (ha : a = 0) (h : b ≠ 0), Ans X0 FHa [.d (opR k a b [] [] [])] (.d (.bool false))
def hcD5_T : Prop := ∀ (k a b : Int)  (hs : smallL [a, b] = true) (hk : k = 5) (h : b ≠ 0), Ans X0 FHa [.d (opR k a b [] [] [])] (.d (.bool false))
def hcD6_T : Prop := ∀ (k a b : Int)  (hs : smallL [a, b] = true) (hk : k = 6) (h : b ≠ 0), Ans X0 FHa [.d (opR k a b [] [] [])] (.d (.bool false))
def hcE0_T : Prop := ∀ (k a b : Int)  (hs : smallL [a, b] = true)(hk1 : 1 ≤ k) (hk8 : k ≤ 8) (n2 : k ≠ 2) (n3 : k ≠ 3) (n5 : k ≠ 5) (n6 : k ≠ 6) (ha : a = 0) (hb : b = 0), Ans X0 FHa [.d (opR k a b [] [] [])] (.d (.bool true))
def hcE2_T : Prop := ∀ (k a b : Int)  (hs : smallL [a, b] = true) (hk : k = 2), Ans X0 FHa [.d (opR k a b [] [] [])] (.d (.bool true))
def hcE3_T : Prop := ∀ (k a b : Int)  (hs : smallL [a, b] = true) (hk : k = 3), Ans X0 FHa [.d (opR k a b [] [] [])] (.d (.bool true))
def hcE5_T : Prop := ∀ (k a b : Int)  (hs : smallL [a, b] = true) (hk : k = 5) (hb : b = 0), Ans X0 FHa [.d (opR k a b [] [] [])] (.d (.bool true))
def hcE6_T : Prop := ∀ (k a b : Int)  (hs : smallL [a, b] = true) (hk : k = 6) (hb : b = 0), Ans X0 FHa [.d (opR k a b [] [] [])] (.d (.bool true))
end Go.Proofs.YtgiahagbmgnmkaaDoor.Script
/- Script: paths, printed by a program of mine. -/
set_option maxRecDepth 100000
set_option linter.unusedSimpArgs false
set_option linter.unusedVariables false
namespace Go.Proofs.YtgiahagbmgnmkaaDoor.Script
open Go Pv G
set_option maxHeartbeats 4000000 in
theorem slY : slY_T := by
  intro l hl h
  exact pV 12 [(1, .l (Ex.exit (0 : Nat)) (stKx l (List.length l)))] (cE (@slYL (l) hl h) nilE) (by kernel_rfl) rfl rfl
set_option maxHeartbeats 4000000 in
theorem slN : slN_T := by
  intro l hl h
  exact pV 12 [(1, .l (Ex.ret) (stKr))] (cE (@slNL (l) hl h) nilE) (by kernel_rfl) rfl rfl
set_option maxHeartbeats 4000000 in
theorem hcA0 : hcA0_T := by
  intro k a b es rs ns m1 m2 m3 hl h0 hr hr2 hn q1 l1 q2 l2 q3 l3 hs
  exact pV 12 [(4, .l (Ex.exit (0 : Nat)) (stH1x k a b es rs ns m1 (List.length es))), (6, .v (Ty.tailV i64 (3 : TypeId) m2)), (9, .l (Ex.exit (2 : Nat)) (stH2x k a b es rs ns m3 (List.length ns))), (10, .v (V.d (D.bool false)))] (cC (@slN (m3) l3 hs) (cE (@haL2 (k) (a) (b) (es) (rs) (ns) (m2) (m3) hn l2 q3) (cP (@appendIR (m1) (m2) (rs) (by omega) hr2 q2) (cE (@haA1 (k) (a) (b) (es) (rs) (ns) (m1) hl h0 q1) nilE)))) (by kernel_rfl) rfl rfl
set_option maxHeartbeats 4000000 in
theorem hcA1 : hcA1_T := by
  intro k a b es rs ns m1 m2 m3 hl h0 hr hr2 hn q1 l1 q2 l2 q3 l3 hs hk
  rcases Bool.eq_false_or_eq_true (decide (k < (1 : Int))) with hx0 | hx0
  · exact pV 12 [(4, .l (Ex.exit (0 : Nat)) (stH1x k a b es rs ns m1 (List.length es))), (6, .v (Ty.tailV i64 (3 : TypeId) m2)), (9, .l (Ex.exit (2 : Nat)) (stH2x k a b es rs ns m3 (List.length ns))), (10, .v (V.d (D.bool true))), (17, bt), (18, bt), (19, bt), (20, bt)] (cP hx0 (cP hx0 (cP hx0 (cP hx0 (cC (@slY (m3) l3 hs) (cE (@haL2 (k) (a) (b) (es) (rs) (ns) (m2) (m3) hn l2 q3) (cP (@appendIR (m1) (m2) (rs) (by omega) hr2 q2) (cE (@haA1 (k) (a) (b) (es) (rs) (ns) (m1) hl h0 q1) nilE)))))))) (by kernel_rfl) rfl rfl
  · rcases Bool.eq_false_or_eq_true (decide (k > (8 : Int))) with hx1 | hx1
    · exact pV 12 [(4, .l (Ex.exit (0 : Nat)) (stH1x k a b es rs ns m1 (List.length es))), (6, .v (Ty.tailV i64 (3 : TypeId) m2)), (9, .l (Ex.exit (2 : Nat)) (stH2x k a b es rs ns m3 (List.length ns))), (10, .v (V.d (D.bool true))), (17, bf), (18, bf), (20, bf), (22, bf), (23, bt), (24, bt), (25, bt), (26, bt), (27, bt), (28, bt)] (cP hx1 (cP hx1 (cP hx1 (cP hx1 (cP hx1 (cP hx1 (cP hx0 (cP hx0 (cP hx0 (cP hx0 (cC (@slY (m3) l3 hs) (cE (@haL2 (k) (a) (b) (es) (rs) (ns) (m2) (m3) hn l2 q3) (cP (@appendIR (m1) (m2) (rs) (by omega) hr2 q2) (cE (@haA1 (k) (a) (b) (es) (rs) (ns) (m1) hl h0 q1) nilE)))))))))))))) (by kernel_rfl) rfl rfl
    · have hx2 : (k != (1 : Int)) = true := by simp [*]
      have hx3 : (decide ((↑(List.length es) : Int) > (0 : Int))) = true := by exact decide_eq_true (by omega)
      exact pV 12 [(4, .l (Ex.exit (0 : Nat)) (stH1x k a b es rs ns m1 (List.length es))), (6, .v (Ty.tailV i64 (3 : TypeId) m2)), (9, .l (Ex.exit (2 : Nat)) (stH2x k a b es rs ns m3 (List.length ns))), (10, .v (V.d (D.bool true))), (17, bf), (18, bf), (20, bf), (22, bf), (23, bf), (24, bf), (26, bf), (28, bf), (29, bt), (30, bt), (32, bt), (34, bt), (36, bf), (37, bt), (38, bf), (39, bt), (40, bt), (41, bt), (42, bt), (43, bt), (44, bt)] (cP hx3 (cP hx3 (cP hx3 (cP hx3 (cP hx3 (cP hx3 (cP hx1 (cP hx2 (cP hx1 (cP hx2 (cP hx2 (cP hx2 (cP hx2 (cP hx1 (cP hx1 (cP hx1 (cP hx1 (cP hx0 (cP hx0 (cP hx0 (cP hx0 (cC (@slY (m3) l3 hs) (cE (@haL2 (k) (a) (b) (es) (rs) (ns) (m2) (m3) hn l2 q3) (cP (@appendIR (m1) (m2) (rs) (by omega) hr2 q2) (cE (@haA1 (k) (a) (b) (es) (rs) (ns) (m1) hl h0 q1) nilE))))))))))))))))))))))))) (by kernel_rfl) rfl rfl
set_option maxHeartbeats 4000000 in
theorem hcA2 : hcA2_T := by
  intro k a b es rs ns m1 m2 m3 hl h0 hr hr2 hn q1 l1 q2 l2 q3 l3 hs hk h
  have hx0 : (decide (k < (1 : Int))) = false := by exact decide_eq_false (by omega)
  have hx1 : (decide (k > (8 : Int))) = false := by exact decide_eq_false (by omega)
  have hx2 : (k != (1 : Int)) = false := by simp [*]
  have hx3 : (k != (4 : Int)) = true := by simp [*]
  have hx4 : (decide ((IntKind.wrap IntKind.i64 ((↑(List.length rs) : Int) + (↑(List.length ns) : Int))) > (0 : Int))) = true := by (first | assumption | (((try simp only [SA] at *); (try simp (disch := omega) only [SB, reduceCtorEq] at *)) <;> first | omega | assumption | (refine ⟨?_, ?_⟩ <;> assumption) | (refine ⟨?_, ?_, ?_⟩ <;> assumption) | (intros; assumption) | (right; right; assumption) | (right; left; assumption) | (left; assumption)))
  exact pV 12 [(4, .l (Ex.exit (0 : Nat)) (stH1x k a b es rs ns m1 (List.length es))), (6, .v (Ty.tailV i64 (3 : TypeId) m2)), (9, .l (Ex.exit (2 : Nat)) (stH2x k a b es rs ns m3 (List.length ns))), (10, .v (V.d (D.bool true))), (17, bf), (18, bf), (20, bf), (22, bf), (23, bf), (24, bf), (26, bf), (28, bf), (29, bf), (30, bf), (31, bf), (32, bf), (33, bf), (34, bf), (35, bf), (42, bt), (43, bt), (45, bt), (47, bt), (48, bt), (50, bt), (52, bt), (54, bt), (57, bt), (59, bt)] (cP hx4 (cP hx3 (cP hx3 (cP hx3 (cP hx3 (cP hx3 (cP hx3 (cP hx3 (cP hx3 (cP hx3 (cP hx1 (cP hx2 (cP hx1 (cP hx2 (cP hx2 (cP hx2 (cP hx2 (cP hx1 (cP hx1 (cP hx1 (cP hx1 (cP hx0 (cP hx0 (cP hx0 (cP hx0 (cC (@slY (m3) l3 hs) (cE (@haL2 (k) (a) (b) (es) (rs) (ns) (m2) (m3) hn l2 q3) (cP (@appendIR (m1) (m2) (rs) (by omega) hr2 q2) (cE (@haA1 (k) (a) (b) (es) (rs) (ns) (m1) hl h0 q1) nilE))))))))))))))))))))))))))))) (by kernel_rfl) rfl rfl
set_option maxHeartbeats 4000000 in
theorem hcA3 : hcA3_T := by
  intro k a b es rs ns m1 m2 m3 hl h0 hr hr2 hn q1 l1 q2 l2 q3 l3 hs hk h1 h2 h
  have hx0 : (decide (k < (1 : Int))) = false := by exact decide_eq_false (by omega)
  have hx1 : (decide (k > (8 : Int))) = false := by exact decide_eq_false (by omega)
  have hx2 : (k != (1 : Int)) = false := by simp [*]
  have hx3 : (k != (4 : Int)) = true := by simp [*]
  have hx4 : (decide ((IntKind.wrap IntKind.i64 ((↑(List.length rs) : Int) + (↑(List.length ns) : Int))) > (0 : Int))) = false := by (first | assumption | (((try simp only [SA] at *); (try simp (disch := omega) only [SB, reduceCtorEq] at *)) <;> first | omega | assumption | (refine ⟨?_, ?_⟩ <;> assumption) | (refine ⟨?_, ?_, ?_⟩ <;> assumption) | (intros; assumption) | (right; right; assumption) | (right; left; assumption) | (left; assumption)))
  have hx5 : (k == (2 : Int)) = false := by exact decide_eq_false (by omega)
  have hx6 : (k == (3 : Int)) = false := by exact decide_eq_false (by omega)
  have hx7 : (k == (5 : Int)) = false := by exact decide_eq_false (by omega)
  have hx8 : (k == (6 : Int)) = false := by exact decide_eq_false (by omega)
  have hx9 : (a == (0 : Int)) = false := by exact decide_eq_false (by omega)
  exact pV 12 [(4, .l (Ex.exit (0 : Nat)) (stH1x k a b es rs ns m1 (List.length es))), (6, .v (Ty.tailV i64 (3 : TypeId) m2)), (9, .l (Ex.exit (2 : Nat)) (stH2x k a b es rs ns m3 (List.length ns))), (10, .v (V.d (D.bool true))), (17, bf), (18, bf), (20, bf), (22, bf), (23, bf), (24, bf), (26, bf), (28, bf), (29, bf), (30, bf), (31, bf), (32, bf), (33, bf), (34, bf), (35, bf), (42, bt), (43, bt), (45, bt), (47, bt), (48, bt), (50, bt), (52, bt), (54, bt), (57, bt), (59, bf), (62, bf), (63, bf), (65, bf), (67, bf), (68, bf), (69, bf), (71, bf), (73, bf), (74, bf), (75, bf), (77, bf), (79, bf), (80, bf), (81, bf), (83, bf), (85, bf), (86, bf), (87, bf), (88, bf), (89, bf)] (cP hx9 (cP hx9 (cP hx9 (cP hx9 (cP hx8 (cP hx8 (cP hx8 (cP hx8 (cP hx7 (cP hx7 (cP hx7 (cP hx7 (cP hx6 (cP hx6 (cP hx6 (cP hx6 (cP hx5 (cP hx5 (cP hx5 (cP hx5 (cP hx4 (cP hx3 (cP hx3 (cP hx3 (cP hx3 (cP hx3 (cP hx3 (cP hx3 (cP hx3 (cP hx3 (cP hx1 (cP hx2 (cP hx1 (cP hx2 (cP hx2 (cP hx2 (cP hx2 (cP hx1 (cP hx1 (cP hx1 (cP hx1 (cP hx0 (cP hx0 (cP hx0 (cP hx0 (cC (@slY (m3) l3 hs) (cE (@haL2 (k) (a) (b) (es) (rs) (ns) (m2) (m3) hn l2 q3) (cP (@appendIR (m1) (m2) (rs) (by omega) hr2 q2) (cE (@haA1 (k) (a) (b) (es) (rs) (ns) (m1) hl h0 q1) nilE))))))))))))))))))))))))))))))))))))))))))))))))) (by kernel_rfl) rfl rfl
set_option maxHeartbeats 4000000 in
theorem hcA4 : hcA4_T := by
  intro k a b es rs ns m1 m2 m3 hl h0 hr hr2 hn q1 l1 q2 l2 q3 l3 hs hk h1 h2 ha h
  have hx0 : (decide (k < (1 : Int))) = false := by exact decide_eq_false (by omega)
  have hx1 : (decide (k > (8 : Int))) = false := by exact decide_eq_false (by omega)
  have hx2 : (k != (1 : Int)) = false := by simp [*]
  have hx3 : (k != (4 : Int)) = true := by simp [*]
  have hx4 : (decide ((IntKind.wrap IntKind.i64 ((↑(List.length rs) : Int) + (↑(List.length ns) : Int))) > (0 : Int))) = false := by (first | assumption | (((try simp only [SA] at *); (try simp (disch := omega) only [SB, reduceCtorEq] at *)) <;> first | omega | assumption | (refine ⟨?_, ?_⟩ <;> assumption) | (refine ⟨?_, ?_, ?_⟩ <;> assumption) | (intros; assumption) | (right; right; assumption) | (right; left; assumption) | (left; assumption)))
  have hx5 : (k == (2 : Int)) = false := by exact decide_eq_false (by omega)
  have hx6 : (k == (3 : Int)) = false := by exact decide_eq_false (by omega)
  have hx7 : (k == (5 : Int)) = false := by exact decide_eq_false (by omega)
  have hx8 : (k == (6 : Int)) = false := by exact decide_eq_false (by omega)
  have hx9 : (a == (0 : Int)) = true := by exact decide_eq_true (by omega)
  exact (pV (v := V.d (D.bool (b == (0 : Int)))) 12 [(4, .l (Ex.exit (0 : Nat)) (stH1x k a b es rs ns m1 (List.length es))), (6, .v (Ty.tailV i64 (3 : TypeId) m2)), (9, .l (Ex.exit (2 : Nat)) (stH2x k a b es rs ns m3 (List.length ns))), (10, .v (V.d (D.bool true))), (17, bf), (18, bf), (20, bf), (22, bf), (23, bf), (24, bf), (26, bf), (28, bf), (29, bf), (30, bf), (31, bf), (32, bf), (33, bf), (34, bf), (35, bf), (42, bt), (43, bt), (45, bt), (47, bt), (48, bt), (50, bt), (52, bt), (54, bt), (57, bt), (59, bf), (62, bf), (63, bf), (65, bf), (67, bf), (68, bf), (69, bf), (71, bf), (73, bf), (74, bf), (75, bf), (77, bf), (79, bf), (80, bf), (81, bf), (83, bf), (85, bf), (86, bt), (87, bt), (88, bf), (89, bf), (91, bf), (93, bt), (94, bf), (95, bt)] (cP hx9 (cP hx6 (cP hx9 (cP hx6 (cP hx6 (cP hx6 (cP hx9 (cP hx9 (cP hx8 (cP hx8 (cP hx8 (cP hx8 (cP hx7 (cP hx7 (cP hx7 (cP hx7 (cP hx6 (cP hx6 (cP hx6 (cP hx6 (cP hx5 (cP hx5 (cP hx5 (cP hx5 (cP hx4 (cP hx3 (cP hx3 (cP hx3 (cP hx3 (cP hx3 (cP hx3 (cP hx3 (cP hx3 (cP hx3 (cP hx1 (cP hx2 (cP hx1 (cP hx2 (cP hx2 (cP hx2 (cP hx2 (cP hx1 (cP hx1 (cP hx1 (cP hx1 (cP hx0 (cP hx0 (cP hx0 (cP hx0 (cC (@slY (m3) l3 hs) (cE (@haL2 (k) (a) (b) (es) (rs) (ns) (m2) (m3) hn l2 q3) (cP (@appendIR (m1) (m2) (rs) (by omega) hr2 q2) (cE (@haA1 (k) (a) (b) (es) (rs) (ns) (m1) hl h0 q1) nilE))))))))))))))))))))))))))))))))))))))))))))))))))))) (by kernel_rfl) rfl rfl).to (by ((try simp (disch := omega) only [wrapId, sizeOne, sizeStr, List.length_cons, List.length_nil, wrapU8, toNatAdd, toNatSucc] at *) <;> (try simp only [Int.toNat_natCast, beq_iff_eq, beq_eq_false_iff_ne, bne_iff_ne, bne_eq_false_iff_eq, ne_eq, Int.natCast_eq_zero, Int.natCast_inj] at *) <;> first | (simp (disch := omega) [Ty.enc, wrapId, toNatPred, toNatAdd, toNatSucc, sizeOne, sizeStr, List.length_cons, List.length_nil, wrapU8, ltF, ltT, Ty.slD, *]; done) | (subst_vars; simp (disch := omega) [Ty.enc, wrapId, toNatPred, toNatAdd, toNatSucc, sizeOne, sizeStr, List.length_cons, List.length_nil, wrapU8, ltF, ltT, Ty.slD, *]; done)))
set_option maxHeartbeats 4000000 in
theorem hcA5 : hcA5_T := by
  intro k a b es rs ns m1 m2 m3 hl h0 hr hr2 hn q1 l1 q2 l2 q3 l3 hs hk h1 h2 ha hb
  have hx0 : (decide (k < (1 : Int))) = false := by exact decide_eq_false (by omega)
  have hx1 : (decide (k > (8 : Int))) = false := by exact decide_eq_false (by omega)
  have hx2 : (k != (1 : Int)) = false := by simp [*]
  have hx3 : (k != (4 : Int)) = true := by simp [*]
  have hx4 : (decide ((IntKind.wrap IntKind.i64 ((↑(List.length rs) : Int) + (↑(List.length ns) : Int))) > (0 : Int))) = false := by (first | assumption | (((try simp only [SA] at *); (try simp (disch := omega) only [SB, reduceCtorEq] at *)) <;> first | omega | assumption | (refine ⟨?_, ?_⟩ <;> assumption) | (refine ⟨?_, ?_, ?_⟩ <;> assumption) | (intros; assumption) | (right; right; assumption) | (right; left; assumption) | (left; assumption)))
  have hx5 : (k == (2 : Int)) = false := by exact decide_eq_false (by omega)
  have hx6 : (k == (3 : Int)) = false := by exact decide_eq_false (by omega)
  have hx7 : (k == (5 : Int)) = false := by exact decide_eq_false (by omega)
  have hx8 : (k == (6 : Int)) = false := by exact decide_eq_false (by omega)
  have hx9 : (a == (0 : Int)) = true := by exact decide_eq_true (by omega)
  exact (pV (v := V.d (D.bool (b == (0 : Int)))) 12 [(4, .l (Ex.exit (0 : Nat)) (stH1x k a b es rs ns m1 (List.length es))), (6, .v (Ty.tailV i64 (3 : TypeId) m2)), (9, .l (Ex.exit (2 : Nat)) (stH2x k a b es rs ns m3 (List.length ns))), (10, .v (V.d (D.bool true))), (17, bf), (18, bf), (20, bf), (22, bf), (23, bf), (24, bf), (26, bf), (28, bf), (29, bf), (30, bf), (31, bf), (32, bf), (33, bf), (34, bf), (35, bf), (42, bt), (43, bt), (45, bt), (47, bt), (48, bt), (50, bt), (52, bt), (54, bt), (57, bt), (59, bf), (62, bf), (63, bf), (65, bf), (67, bf), (68, bf), (69, bf), (71, bf), (73, bf), (74, bf), (75, bf), (77, bf), (79, bf), (80, bf), (81, bf), (83, bf), (85, bf), (86, bt), (87, bt), (88, bf), (89, bf), (91, bf), (93, bt), (94, bf), (95, bt)] (cP hx9 (cP hx6 (cP hx9 (cP hx6 (cP hx6 (cP hx6 (cP hx9 (cP hx9 (cP hx8 (cP hx8 (cP hx8 (cP hx8 (cP hx7 (cP hx7 (cP hx7 (cP hx7 (cP hx6 (cP hx6 (cP hx6 (cP hx6 (cP hx5 (cP hx5 (cP hx5 (cP hx5 (cP hx4 (cP hx3 (cP hx3 (cP hx3 (cP hx3 (cP hx3 (cP hx3 (cP hx3 (cP hx3 (cP hx3 (cP hx1 (cP hx2 (cP hx1 (cP hx2 (cP hx2 (cP hx2 (cP hx2 (cP hx1 (cP hx1 (cP hx1 (cP hx1 (cP hx0 (cP hx0 (cP hx0 (cP hx0 (cC (@slY (m3) l3 hs) (cE (@haL2 (k) (a) (b) (es) (rs) (ns) (m2) (m3) hn l2 q3) (cP (@appendIR (m1) (m2) (rs) (by omega) hr2 q2) (cE (@haA1 (k) (a) (b) (es) (rs) (ns) (m1) hl h0 q1) nilE))))))))))))))))))))))))))))))))))))))))))))))))))))) (by kernel_rfl) rfl rfl).to (by ((try simp (disch := omega) only [wrapId, sizeOne, sizeStr, List.length_cons, List.length_nil, wrapU8, toNatAdd, toNatSucc] at *) <;> (try simp only [Int.toNat_natCast, beq_iff_eq, beq_eq_false_iff_ne, bne_iff_ne, bne_eq_false_iff_eq, ne_eq, Int.natCast_eq_zero, Int.natCast_inj] at *) <;> first | (simp (disch := omega) [Ty.enc, wrapId, toNatPred, toNatAdd, toNatSucc, sizeOne, sizeStr, List.length_cons, List.length_nil, wrapU8, ltF, ltT, Ty.slD, *]; done) | (subst_vars; simp (disch := omega) [Ty.enc, wrapId, toNatPred, toNatAdd, toNatSucc, sizeOne, sizeStr, List.length_cons, List.length_nil, wrapU8, ltF, ltT, Ty.slD, *]; done)))
set_option maxHeartbeats 4000000 in
theorem hcB0 : hcB0_T := by
  intro k a b rs ns m2 m3 h0 hr hr2 hn q2 l2 q3 l3 hs
  exact pV 12 [(4, .l (Ex.exit (0 : Nat)) (stH1fx k a b [] rs ns (0 : Nat))), (6, .v (Ty.tailV i64 (3 : TypeId) m2)), (9, .l (Ex.exit (2 : Nat)) (stH2x k a b [] rs ns m3 (List.length ns))), (10, .v (V.d (D.bool false)))] (cC (@slN (m3) l3 hs) (cE (@haL2e (k) (a) (b) (rs) (ns) (m2) (m3) hn l2 q3) (cP (@appendFR (a) (b) (m2) (rs) h0 hr2 q2) (cE (@haA0 (k) (a) (b) (rs) (ns)) nilE)))) (by kernel_rfl) rfl rfl
set_option maxHeartbeats 4000000 in
theorem hcB1 : hcB1_T := by
  intro k a b rs ns m2 m3 h0 hr hr2 hn q2 l2 q3 l3 hs hk
  rcases Bool.eq_false_or_eq_true (decide (k < (1 : Int))) with hx0 | hx0
  · exact pV 12 [(4, .l (Ex.exit (0 : Nat)) (stH1fx k a b [] rs ns (0 : Nat))), (6, .v (Ty.tailV i64 (3 : TypeId) m2)), (9, .l (Ex.exit (2 : Nat)) (stH2x k a b [] rs ns m3 (List.length ns))), (10, .v (V.d (D.bool true))), (17, bt), (18, bt), (19, bt), (20, bt)] (cP hx0 (cP hx0 (cP hx0 (cP hx0 (cC (@slY (m3) l3 hs) (cE (@haL2e (k) (a) (b) (rs) (ns) (m2) (m3) hn l2 q3) (cP (@appendFR (a) (b) (m2) (rs) h0 hr2 q2) (cE (@haA0 (k) (a) (b) (rs) (ns)) nilE)))))))) (by kernel_rfl) rfl rfl
  · rcases Bool.eq_false_or_eq_true (decide (k > (8 : Int))) with hx1 | hx1
    · exact pV 12 [(4, .l (Ex.exit (0 : Nat)) (stH1fx k a b [] rs ns (0 : Nat))), (6, .v (Ty.tailV i64 (3 : TypeId) m2)), (9, .l (Ex.exit (2 : Nat)) (stH2x k a b [] rs ns m3 (List.length ns))), (10, .v (V.d (D.bool true))), (17, bf), (18, bf), (20, bf), (22, bf), (23, bt), (24, bt), (25, bt), (26, bt), (27, bt), (28, bt)] (cP hx1 (cP hx1 (cP hx1 (cP hx1 (cP hx1 (cP hx1 (cP hx0 (cP hx0 (cP hx0 (cP hx0 (cC (@slY (m3) l3 hs) (cE (@haL2e (k) (a) (b) (rs) (ns) (m2) (m3) hn l2 q3) (cP (@appendFR (a) (b) (m2) (rs) h0 hr2 q2) (cE (@haA0 (k) (a) (b) (rs) (ns)) nilE)))))))))))))) (by kernel_rfl) rfl rfl
    · rcases Bool.eq_false_or_eq_true (k != (1 : Int)) with hx2 | hx2
      · have hx3 : (k != (4 : Int)) = true := by simp [*]
        have hx4 : (decide ((IntKind.wrap IntKind.i64 ((↑(List.length rs) : Int) + (↑(List.length ns) : Int))) > (0 : Int))) = true := by (first | assumption | (((try simp only [SA] at *); (try simp (disch := omega) only [SB, reduceCtorEq] at *)) <;> first | omega | assumption | (refine ⟨?_, ?_⟩ <;> assumption) | (refine ⟨?_, ?_, ?_⟩ <;> assumption) | (intros; assumption) | (right; right; assumption) | (right; left; assumption) | (left; assumption)))
        exact pV 12 [(4, .l (Ex.exit (0 : Nat)) (stH1fx k a b [] rs ns (0 : Nat))), (6, .v (Ty.tailV i64 (3 : TypeId) m2)), (9, .l (Ex.exit (2 : Nat)) (stH2x k a b [] rs ns m3 (List.length ns))), (10, .v (V.d (D.bool true))), (17, bf), (18, bf), (20, bf), (22, bf), (23, bf), (24, bf), (26, bf), (28, bf), (29, bt), (30, bt), (32, bt), (34, bt), (36, bf), (37, bt), (38, bf), (45, bt), (46, bt), (48, bt), (50, bt), (51, bt), (53, bt), (55, bt), (57, bt), (60, bt), (62, bt)] (cP hx4 (cP hx3 (cP hx3 (cP hx3 (cP hx3 (cP hx3 (cP hx3 (cP hx3 (cP hx3 (cP hx3 (cP hx1 (cP hx2 (cP hx1 (cP hx2 (cP hx2 (cP hx2 (cP hx2 (cP hx1 (cP hx1 (cP hx1 (cP hx1 (cP hx0 (cP hx0 (cP hx0 (cP hx0 (cC (@slY (m3) l3 hs) (cE (@haL2e (k) (a) (b) (rs) (ns) (m2) (m3) hn l2 q3) (cP (@appendFR (a) (b) (m2) (rs) h0 hr2 q2) (cE (@haA0 (k) (a) (b) (rs) (ns)) nilE))))))))))))))))))))))))))))) (by kernel_rfl) rfl rfl
      · have hx3 : (k != (4 : Int)) = true := by simp [*]
        have hx4 : (decide ((IntKind.wrap IntKind.i64 ((↑(List.length rs) : Int) + (↑(List.length ns) : Int))) > (0 : Int))) = true := by (first | assumption | (((try simp only [SA] at *); (try simp (disch := omega) only [SB, reduceCtorEq] at *)) <;> first | omega | assumption | (refine ⟨?_, ?_⟩ <;> assumption) | (refine ⟨?_, ?_, ?_⟩ <;> assumption) | (intros; assumption) | (right; right; assumption) | (right; left; assumption) | (left; assumption)))
        exact pV 12 [(4, .l (Ex.exit (0 : Nat)) (stH1fx k a b [] rs ns (0 : Nat))), (6, .v (Ty.tailV i64 (3 : TypeId) m2)), (9, .l (Ex.exit (2 : Nat)) (stH2x k a b [] rs ns m3 (List.length ns))), (10, .v (V.d (D.bool true))), (17, bf), (18, bf), (20, bf), (22, bf), (23, bf), (24, bf), (26, bf), (28, bf), (29, bf), (30, bf), (31, bf), (32, bf), (33, bf), (34, bf), (35, bf), (42, bt), (43, bt), (45, bt), (47, bt), (48, bt), (50, bt), (52, bt), (54, bt), (57, bt), (59, bt)] (cP hx4 (cP hx3 (cP hx3 (cP hx3 (cP hx3 (cP hx3 (cP hx3 (cP hx3 (cP hx3 (cP hx3 (cP hx1 (cP hx2 (cP hx1 (cP hx2 (cP hx2 (cP hx2 (cP hx2 (cP hx1 (cP hx1 (cP hx1 (cP hx1 (cP hx0 (cP hx0 (cP hx0 (cP hx0 (cC (@slY (m3) l3 hs) (cE (@haL2e (k) (a) (b) (rs) (ns) (m2) (m3) hn l2 q3) (cP (@appendFR (a) (b) (m2) (rs) h0 hr2 q2) (cE (@haA0 (k) (a) (b) (rs) (ns)) nilE))))))))))))))))))))))))))))) (by kernel_rfl) rfl rfl
set_option maxHeartbeats 4000000 in
theorem hcB2 : hcB2_T := by
  intro k a b rs ns m2 m3 h0 hr hr2 hn q2 l2 q3 l3 hs hk h
  have hx0 : (decide (k < (1 : Int))) = false := by exact decide_eq_false (by omega)
  have hx1 : (decide (k > (8 : Int))) = false := by exact decide_eq_false (by omega)
  have hx2 : (k != (1 : Int)) = true := by simp [*]
  have hx3 : (k != (4 : Int)) = false := by simp [*]
  have hx4 : (k == (2 : Int)) = false := by exact decide_eq_false (by omega)
  have hx5 : (k == (3 : Int)) = false := by exact decide_eq_false (by omega)
  have hx6 : (k == (5 : Int)) = false := by exact decide_eq_false (by omega)
  have hx7 : (k == (6 : Int)) = false := by exact decide_eq_false (by omega)
  have hx8 : (a == (0 : Int)) = false := by exact decide_eq_false (by omega)
  exact pV 12 [(4, .l (Ex.exit (0 : Nat)) (stH1fx k a b [] rs ns (0 : Nat))), (6, .v (Ty.tailV i64 (3 : TypeId) m2)), (9, .l (Ex.exit (2 : Nat)) (stH2x k a b [] rs ns m3 (List.length ns))), (10, .v (V.d (D.bool true))), (17, bf), (18, bf), (20, bf), (22, bf), (23, bf), (24, bf), (26, bf), (28, bf), (29, bt), (30, bt), (32, bt), (34, bt), (36, bf), (37, bt), (38, bf), (45, bf), (46, bf), (47, bf), (48, bf), (49, bf), (50, bf), (51, bf), (52, bf), (54, bf), (59, bf), (60, bf), (62, bf), (64, bf), (65, bf), (66, bf), (68, bf), (70, bf), (71, bf), (72, bf), (74, bf), (76, bf), (77, bf), (78, bf), (80, bf), (82, bf), (83, bf), (84, bf), (85, bf), (86, bf)] (cP hx8 (cP hx8 (cP hx8 (cP hx8 (cP hx7 (cP hx7 (cP hx7 (cP hx7 (cP hx6 (cP hx6 (cP hx6 (cP hx6 (cP hx5 (cP hx5 (cP hx5 (cP hx5 (cP hx4 (cP hx4 (cP hx4 (cP hx4 (cP hx3 (cP hx3 (cP hx3 (cP hx3 (cP hx3 (cP hx3 (cP hx3 (cP hx3 (cP hx3 (cP hx1 (cP hx2 (cP hx1 (cP hx2 (cP hx2 (cP hx2 (cP hx2 (cP hx1 (cP hx1 (cP hx1 (cP hx1 (cP hx0 (cP hx0 (cP hx0 (cP hx0 (cC (@slY (m3) l3 hs) (cE (@haL2e (k) (a) (b) (rs) (ns) (m2) (m3) hn l2 q3) (cP (@appendFR (a) (b) (m2) (rs) h0 hr2 q2) (cE (@haA0 (k) (a) (b) (rs) (ns)) nilE)))))))))))))))))))))))))))))))))))))))))))))))) (by kernel_rfl) rfl rfl
set_option maxHeartbeats 4000000 in
theorem hcB3 : hcB3_T := by
  intro k a b rs ns m2 m3 h0 hr hr2 hn q2 l2 q3 l3 hs hk ha h
  have hx0 : (decide (k < (1 : Int))) = false := by exact decide_eq_false (by omega)
  have hx1 : (decide (k > (8 : Int))) = false := by exact decide_eq_false (by omega)
  have hx2 : (k != (1 : Int)) = true := by simp [*]
  have hx3 : (k != (4 : Int)) = false := by simp [*]
  have hx4 : (k == (2 : Int)) = false := by exact decide_eq_false (by omega)
  have hx5 : (k == (3 : Int)) = false := by exact decide_eq_false (by omega)
  have hx6 : (k == (5 : Int)) = false := by exact decide_eq_false (by omega)
  have hx7 : (k == (6 : Int)) = false := by exact decide_eq_false (by omega)
  have hx8 : (a == (0 : Int)) = true := by exact decide_eq_true (by omega)
  exact (pV (v := V.d (D.bool (b == (0 : Int)))) 12 [(4, .l (Ex.exit (0 : Nat)) (stH1fx k a b [] rs ns (0 : Nat))), (6, .v (Ty.tailV i64 (3 : TypeId) m2)), (9, .l (Ex.exit (2 : Nat)) (stH2x k a b [] rs ns m3 (List.length ns))), (10, .v (V.d (D.bool true))), (17, bf), (18, bf), (20, bf), (22, bf), (23, bf), (24, bf), (26, bf), (28, bf), (29, bt), (30, bt), (32, bt), (34, bt), (36, bf), (37, bt), (38, bf), (45, bf), (46, bf), (47, bf), (48, bf), (49, bf), (50, bf), (51, bf), (52, bf), (54, bf), (59, bf), (60, bf), (62, bf), (64, bf), (65, bf), (66, bf), (68, bf), (70, bf), (71, bf), (72, bf), (74, bf), (76, bf), (77, bf), (78, bf), (80, bf), (82, bf), (83, bt), (84, bt), (85, bf), (86, bf), (88, bf), (90, bt), (91, bf), (92, bt)] (cP hx8 (cP hx5 (cP hx8 (cP hx5 (cP hx5 (cP hx5 (cP hx8 (cP hx8 (cP hx7 (cP hx7 (cP hx7 (cP hx7 (cP hx6 (cP hx6 (cP hx6 (cP hx6 (cP hx5 (cP hx5 (cP hx5 (cP hx5 (cP hx4 (cP hx4 (cP hx4 (cP hx4 (cP hx3 (cP hx3 (cP hx3 (cP hx3 (cP hx3 (cP hx3 (cP hx3 (cP hx3 (cP hx3 (cP hx1 (cP hx2 (cP hx1 (cP hx2 (cP hx2 (cP hx2 (cP hx2 (cP hx1 (cP hx1 (cP hx1 (cP hx1 (cP hx0 (cP hx0 (cP hx0 (cP hx0 (cC (@slY (m3) l3 hs) (cE (@haL2e (k) (a) (b) (rs) (ns) (m2) (m3) hn l2 q3) (cP (@appendFR (a) (b) (m2) (rs) h0 hr2 q2) (cE (@haA0 (k) (a) (b) (rs) (ns)) nilE)))))))))))))))))))))))))))))))))))))))))))))))))))) (by kernel_rfl) rfl rfl).to (by ((try simp (disch := omega) only [wrapId, sizeOne, sizeStr, List.length_cons, List.length_nil, wrapU8, toNatAdd, toNatSucc] at *) <;> (try simp only [Int.toNat_natCast, beq_iff_eq, beq_eq_false_iff_ne, bne_iff_ne, bne_eq_false_iff_eq, ne_eq, Int.natCast_eq_zero, Int.natCast_inj] at *) <;> first | (simp (disch := omega) [Ty.enc, wrapId, toNatPred, toNatAdd, toNatSucc, sizeOne, sizeStr, List.length_cons, List.length_nil, wrapU8, ltF, ltT, Ty.slD, *]; done) | (subst_vars; simp (disch := omega) [Ty.enc, wrapId, toNatPred, toNatAdd, toNatSucc, sizeOne, sizeStr, List.length_cons, List.length_nil, wrapU8, ltF, ltT, Ty.slD, *]; done)))
set_option maxHeartbeats 4000000 in
theorem hcB4 : hcB4_T := by
  intro k a b rs ns m2 m3 h0 hr hr2 hn q2 l2 q3 l3 hs hk ha hb
  have hx0 : (decide (k < (1 : Int))) = false := by exact decide_eq_false (by omega)
  have hx1 : (decide (k > (8 : Int))) = false := by exact decide_eq_false (by omega)
  have hx2 : (k != (1 : Int)) = true := by simp [*]
  have hx3 : (k != (4 : Int)) = false := by simp [*]
  have hx4 : (k == (2 : Int)) = false := by exact decide_eq_false (by omega)
  have hx5 : (k == (3 : Int)) = false := by exact decide_eq_false (by omega)
  have hx6 : (k == (5 : Int)) = false := by exact decide_eq_false (by omega)
  have hx7 : (k == (6 : Int)) = false := by exact decide_eq_false (by omega)
  have hx8 : (a == (0 : Int)) = true := by exact decide_eq_true (by omega)
  exact (pV (v := V.d (D.bool (b == (0 : Int)))) 12 [(4, .l (Ex.exit (0 : Nat)) (stH1fx k a b [] rs ns (0 : Nat))), (6, .v (Ty.tailV i64 (3 : TypeId) m2)), (9, .l (Ex.exit (2 : Nat)) (stH2x k a b [] rs ns m3 (List.length ns))), (10, .v (V.d (D.bool true))), (17, bf), (18, bf), (20, bf), (22, bf), (23, bf), (24, bf), (26, bf), (28, bf), (29, bt), (30, bt), (32, bt), (34, bt), (36, bf), (37, bt), (38, bf), (45, bf), (46, bf), (47, bf), (48, bf), (49, bf), (50, bf), (51, bf), (52, bf), (54, bf), (59, bf), (60, bf), (62, bf), (64, bf), (65, bf), (66, bf), (68, bf), (70, bf), (71, bf), (72, bf), (74, bf), (76, bf), (77, bf), (78, bf), (80, bf), (82, bf), (83, bt), (84, bt), (85, bf), (86, bf), (88, bf), (90, bt), (91, bf), (92, bt)] (cP hx8 (cP hx5 (cP hx8 (cP hx5 (cP hx5 (cP hx5 (cP hx8 (cP hx8 (cP hx7 (cP hx7 (cP hx7 (cP hx7 (cP hx6 (cP hx6 (cP hx6 (cP hx6 (cP hx5 (cP hx5 (cP hx5 (cP hx5 (cP hx4 (cP hx4 (cP hx4 (cP hx4 (cP hx3 (cP hx3 (cP hx3 (cP hx3 (cP hx3 (cP hx3 (cP hx3 (cP hx3 (cP hx3 (cP hx1 (cP hx2 (cP hx1 (cP hx2 (cP hx2 (cP hx2 (cP hx2 (cP hx1 (cP hx1 (cP hx1 (cP hx1 (cP hx0 (cP hx0 (cP hx0 (cP hx0 (cC (@slY (m3) l3 hs) (cE (@haL2e (k) (a) (b) (rs) (ns) (m2) (m3) hn l2 q3) (cP (@appendFR (a) (b) (m2) (rs) h0 hr2 q2) (cE (@haA0 (k) (a) (b) (rs) (ns)) nilE)))))))))))))))))))))))))))))))))))))))))))))))))))) (by kernel_rfl) rfl rfl).to (by ((try simp (disch := omega) only [wrapId, sizeOne, sizeStr, List.length_cons, List.length_nil, wrapU8, toNatAdd, toNatSucc] at *) <;> (try simp only [Int.toNat_natCast, beq_iff_eq, beq_eq_false_iff_ne, bne_iff_ne, bne_eq_false_iff_eq, ne_eq, Int.natCast_eq_zero, Int.natCast_inj] at *) <;> first | (simp (disch := omega) [Ty.enc, wrapId, toNatPred, toNatAdd, toNatSucc, sizeOne, sizeStr, List.length_cons, List.length_nil, wrapU8, ltF, ltT, Ty.slD, *]; done) | (subst_vars; simp (disch := omega) [Ty.enc, wrapId, toNatPred, toNatAdd, toNatSucc, sizeOne, sizeStr, List.length_cons, List.length_nil, wrapU8, ltF, ltT, Ty.slD, *]; done)))
set_option maxHeartbeats 4000000 in
theorem hcC0 : hcC0_T := by
  intro k a b ns m3 h0 hn q3 l3 hs
  exact pV 12 [(11, .l (Ex.exit (2 : Nat)) (stH2x k a b [] [] ns m3 (List.length ns))), (12, .v (V.d (D.bool false)))] (cC (@slN (m3) l3 hs) (cE (@haB1 (k) (a) (b) (ns) (m3) hn h0 q3) nilE)) (by kernel_rfl) rfl rfl
set_option maxHeartbeats 4000000 in
theorem hcC1 : hcC1_T := by
  intro k a b ns m3 h0 hn q3 l3 hs hk
  rcases Bool.eq_false_or_eq_true (decide (k < (1 : Int))) with hx0 | hx0
  · exact pV 12 [(11, .l (Ex.exit (2 : Nat)) (stH2x k a b [] [] ns m3 (List.length ns))), (12, .v (V.d (D.bool true))), (19, bt), (20, bt), (21, bt), (22, bt)] (cP hx0 (cP hx0 (cP hx0 (cP hx0 (cC (@slY (m3) l3 hs) (cE (@haB1 (k) (a) (b) (ns) (m3) hn h0 q3) nilE)))))) (by kernel_rfl) rfl rfl
  · rcases Bool.eq_false_or_eq_true (decide (k > (8 : Int))) with hx1 | hx1
    · exact pV 12 [(11, .l (Ex.exit (2 : Nat)) (stH2x k a b [] [] ns m3 (List.length ns))), (12, .v (V.d (D.bool true))), (19, bf), (20, bf), (22, bf), (24, bf), (25, bt), (26, bt), (27, bt), (28, bt), (29, bt), (30, bt)] (cP hx1 (cP hx1 (cP hx1 (cP hx1 (cP hx1 (cP hx1 (cP hx0 (cP hx0 (cP hx0 (cP hx0 (cC (@slY (m3) l3 hs) (cE (@haB1 (k) (a) (b) (ns) (m3) hn h0 q3) nilE)))))))))))) (by kernel_rfl) rfl rfl
    · rcases Bool.eq_false_or_eq_true (k != (1 : Int)) with hx2 | hx2
      · have hx3 : (k != (4 : Int)) = true := by simp [*]
        have hx4 : (decide ((IntKind.wrap IntKind.i64 ((↑(List.length ([] : List Int)) : Int) + (↑(List.length ns) : Int))) > (0 : Int))) = true := by (first | assumption | (((try simp only [SA] at *); (try simp (disch := omega) only [SB, reduceCtorEq] at *)) <;> first | omega | assumption | (refine ⟨?_, ?_⟩ <;> assumption) | (refine ⟨?_, ?_, ?_⟩ <;> assumption) | (intros; assumption) | (right; right; assumption) | (right; left; assumption) | (left; assumption)))
        exact pV 12 [(11, .l (Ex.exit (2 : Nat)) (stH2x k a b [] [] ns m3 (List.length ns))), (12, .v (V.d (D.bool true))), (19, bf), (20, bf), (22, bf), (24, bf), (25, bf), (26, bf), (28, bf), (30, bf), (31, bt), (32, bt), (34, bt), (36, bt), (38, bf), (39, bt), (40, bf), (47, bt), (48, bt), (50, bt), (52, bt), (53, bt), (55, bt), (57, bt), (59, bt), (62, bt), (64, bt)] (cP hx4 (cP hx3 (cP hx3 (cP hx3 (cP hx3 (cP hx3 (cP hx3 (cP hx3 (cP hx3 (cP hx3 (cP hx1 (cP hx2 (cP hx1 (cP hx2 (cP hx2 (cP hx2 (cP hx2 (cP hx1 (cP hx1 (cP hx1 (cP hx1 (cP hx0 (cP hx0 (cP hx0 (cP hx0 (cC (@slY (m3) l3 hs) (cE (@haB1 (k) (a) (b) (ns) (m3) hn h0 q3) nilE))))))))))))))))))))))))))) (by kernel_rfl) rfl rfl
      · have hx3 : (k != (4 : Int)) = true := by simp [*]
        have hx4 : (decide ((IntKind.wrap IntKind.i64 ((↑(List.length ([] : List Int)) : Int) + (↑(List.length ns) : Int))) > (0 : Int))) = true := by (first | assumption | (((try simp only [SA] at *); (try simp (disch := omega) only [SB, reduceCtorEq] at *)) <;> first | omega | assumption | (refine ⟨?_, ?_⟩ <;> assumption) | (refine ⟨?_, ?_, ?_⟩ <;> assumption) | (intros; assumption) | (right; right; assumption) | (right; left; assumption) | (left; assumption)))
        exact pV 12 [(11, .l (Ex.exit (2 : Nat)) (stH2x k a b [] [] ns m3 (List.length ns))), (12, .v (V.d (D.bool true))), (19, bf), (20, bf), (22, bf), (24, bf), (25, bf), (26, bf), (28, bf), (30, bf), (31, bf), (32, bf), (33, bf), (34, bf), (35, bf), (36, bf), (37, bf), (44, bt), (45, bt), (47, bt), (49, bt), (50, bt), (52, bt), (54, bt), (56, bt), (59, bt), (61, bt)] (cP hx4 (cP hx3 (cP hx3 (cP hx3 (cP hx3 (cP hx3 (cP hx3 (cP hx3 (cP hx3 (cP hx3 (cP hx1 (cP hx2 (cP hx1 (cP hx2 (cP hx2 (cP hx2 (cP hx2 (cP hx1 (cP hx1 (cP hx1 (cP hx1 (cP hx0 (cP hx0 (cP hx0 (cP hx0 (cC (@slY (m3) l3 hs) (cE (@haB1 (k) (a) (b) (ns) (m3) hn h0 q3) nilE))))))))))))))))))))))))))) (by kernel_rfl) rfl rfl
set_option maxHeartbeats 4000000 in
theorem hcC2 : hcC2_T := by
  intro k a b ns m3 h0 hn q3 l3 hs hk h
  have hx0 : (decide (k < (1 : Int))) = false := by exact decide_eq_false (by omega)
  have hx1 : (decide (k > (8 : Int))) = false := by exact decide_eq_false (by omega)
  have hx2 : (k != (1 : Int)) = true := by simp [*]
  have hx3 : (k != (4 : Int)) = false := by simp [*]
  have hx4 : (k == (2 : Int)) = false := by exact decide_eq_false (by omega)
  have hx5 : (k == (3 : Int)) = false := by exact decide_eq_false (by omega)
  have hx6 : (k == (5 : Int)) = false := by exact decide_eq_false (by omega)
  have hx7 : (k == (6 : Int)) = false := by exact decide_eq_false (by omega)
  have hx8 : (a == (0 : Int)) = false := by exact decide_eq_false (by omega)
  exact pV 12 [(11, .l (Ex.exit (2 : Nat)) (stH2x k a b [] [] ns m3 (List.length ns))), (12, .v (V.d (D.bool true))), (19, bf), (20, bf), (22, bf), (24, bf), (25, bf), (26, bf), (28, bf), (30, bf), (31, bt), (32, bt), (34, bt), (36, bt), (38, bf), (39, bt), (40, bf), (47, bf), (48, bf), (49, bf), (50, bf), (51, bf), (52, bf), (53, bf), (54, bf), (56, bf), (61, bf), (62, bf), (64, bf), (66, bf), (67, bf), (68, bf), (70, bf), (72, bf), (73, bf), (74, bf), (76, bf), (78, bf), (79, bf), (80, bf), (82, bf), (84, bf), (85, bf), (86, bf), (87, bf), (88, bf)] (cP hx8 (cP hx8 (cP hx8 (cP hx8 (cP hx7 (cP hx7 (cP hx7 (cP hx7 (cP hx6 (cP hx6 (cP hx6 (cP hx6 (cP hx5 (cP hx5 (cP hx5 (cP hx5 (cP hx4 (cP hx4 (cP hx4 (cP hx4 (cP hx3 (cP hx3 (cP hx3 (cP hx3 (cP hx3 (cP hx3 (cP hx3 (cP hx3 (cP hx3 (cP hx1 (cP hx2 (cP hx1 (cP hx2 (cP hx2 (cP hx2 (cP hx2 (cP hx1 (cP hx1 (cP hx1 (cP hx1 (cP hx0 (cP hx0 (cP hx0 (cP hx0 (cC (@slY (m3) l3 hs) (cE (@haB1 (k) (a) (b) (ns) (m3) hn h0 q3) nilE)))))))))))))))))))))))))))))))))))))))))))))) (by kernel_rfl) rfl rfl
set_option maxHeartbeats 4000000 in
theorem hcC3 : hcC3_T := by
  intro k a b ns m3 h0 hn q3 l3 hs hk ha h
  have hx0 : (decide (k < (1 : Int))) = false := by exact decide_eq_false (by omega)
  have hx1 : (decide (k > (8 : Int))) = false := by exact decide_eq_false (by omega)
  have hx2 : (k != (1 : Int)) = true := by simp [*]
  have hx3 : (k != (4 : Int)) = false := by simp [*]
  have hx4 : (k == (2 : Int)) = false := by exact decide_eq_false (by omega)
  have hx5 : (k == (3 : Int)) = false := by exact decide_eq_false (by omega)
  have hx6 : (k == (5 : Int)) = false := by exact decide_eq_false (by omega)
  have hx7 : (k == (6 : Int)) = false := by exact decide_eq_false (by omega)
  have hx8 : (a == (0 : Int)) = true := by exact decide_eq_true (by omega)
  exact (pV (v := V.d (D.bool (b == (0 : Int)))) 12 [(11, .l (Ex.exit (2 : Nat)) (stH2x k a b [] [] ns m3 (List.length ns))), (12, .v (V.d (D.bool true))), (19, bf), (20, bf), (22, bf), (24, bf), (25, bf), (26, bf), (28, bf), (30, bf), (31, bt), (32, bt), (34, bt), (36, bt), (38, bf), (39, bt), (40, bf), (47, bf), (48, bf), (49, bf), (50, bf), (51, bf), (52, bf), (53, bf), (54, bf), (56, bf), (61, bf), (62, bf), (64, bf), (66, bf), (67, bf), (68, bf), (70, bf), (72, bf), (73, bf), (74, bf), (76, bf), (78, bf), (79, bf), (80, bf), (82, bf), (84, bf), (85, bt), (86, bt), (87, bf), (88, bf), (90, bf), (92, bt), (93, bf), (94, bt)] (cP hx8 (cP hx5 (cP hx8 (cP hx5 (cP hx5 (cP hx5 (cP hx8 (cP hx8 (cP hx7 (cP hx7 (cP hx7 (cP hx7 (cP hx6 (cP hx6 (cP hx6 (cP hx6 (cP hx5 (cP hx5 (cP hx5 (cP hx5 (cP hx4 (cP hx4 (cP hx4 (cP hx4 (cP hx3 (cP hx3 (cP hx3 (cP hx3 (cP hx3 (cP hx3 (cP hx3 (cP hx3 (cP hx3 (cP hx1 (cP hx2 (cP hx1 (cP hx2 (cP hx2 (cP hx2 (cP hx2 (cP hx1 (cP hx1 (cP hx1 (cP hx1 (cP hx0 (cP hx0 (cP hx0 (cP hx0 (cC (@slY (m3) l3 hs) (cE (@haB1 (k) (a) (b) (ns) (m3) hn h0 q3) nilE)))))))))))))))))))))))))))))))))))))))))))))))))) (by kernel_rfl) rfl rfl).to (by ((try simp (disch := omega) only [wrapId, sizeOne, sizeStr, List.length_cons, List.length_nil, wrapU8, toNatAdd, toNatSucc] at *) <;> (try simp only [Int.toNat_natCast, beq_iff_eq, beq_eq_false_iff_ne, bne_iff_ne, bne_eq_false_iff_eq, ne_eq, Int.natCast_eq_zero, Int.natCast_inj] at *) <;> first | (simp (disch := omega) [Ty.enc, wrapId, toNatPred, toNatAdd, toNatSucc, sizeOne, sizeStr, List.length_cons, List.length_nil, wrapU8, ltF, ltT, Ty.slD, *]; done) | (subst_vars; simp (disch := omega) [Ty.enc, wrapId, toNatPred, toNatAdd, toNatSucc, sizeOne, sizeStr, List.length_cons, List.length_nil, wrapU8, ltF, ltT, Ty.slD, *]; done)))
set_option maxHeartbeats 4000000 in
theorem hcC4 : hcC4_T := by
  intro k a b ns m3 h0 hn q3 l3 hs hk ha hb
  have hx0 : (decide (k < (1 : Int))) = false := by exact decide_eq_false (by omega)
  have hx1 : (decide (k > (8 : Int))) = false := by exact decide_eq_false (by omega)
  have hx2 : (k != (1 : Int)) = true := by simp [*]
  have hx3 : (k != (4 : Int)) = false := by simp [*]
  have hx4 : (k == (2 : Int)) = false := by exact decide_eq_false (by omega)
  have hx5 : (k == (3 : Int)) = false := by exact decide_eq_false (by omega)
  have hx6 : (k == (5 : Int)) = false := by exact decide_eq_false (by omega)
  have hx7 : (k == (6 : Int)) = false := by exact decide_eq_false (by omega)
  have hx8 : (a == (0 : Int)) = true := by exact decide_eq_true (by omega)
  exact (pV (v := V.d (D.bool (b == (0 : Int)))) 12 [(11, .l (Ex.exit (2 : Nat)) (stH2x k a b [] [] ns m3 (List.length ns))), (12, .v (V.d (D.bool true))), (19, bf), (20, bf), (22, bf), (24, bf), (25, bf), (26, bf), (28, bf), (30, bf), (31, bt), (32, bt), (34, bt), (36, bt), (38, bf), (39, bt), (40, bf), (47, bf), (48, bf), (49, bf), (50, bf), (51, bf), (52, bf), (53, bf), (54, bf), (56, bf), (61, bf), (62, bf), (64, bf), (66, bf), (67, bf), (68, bf), (70, bf), (72, bf), (73, bf), (74, bf), (76, bf), (78, bf), (79, bf), (80, bf), (82, bf), (84, bf), (85, bt), (86, bt), (87, bf), (88, bf), (90, bf), (92, bt), (93, bf), (94, bt)] (cP hx8 (cP hx5 (cP hx8 (cP hx5 (cP hx5 (cP hx5 (cP hx8 (cP hx8 (cP hx7 (cP hx7 (cP hx7 (cP hx7 (cP hx6 (cP hx6 (cP hx6 (cP hx6 (cP hx5 (cP hx5 (cP hx5 (cP hx5 (cP hx4 (cP hx4 (cP hx4 (cP hx4 (cP hx3 (cP hx3 (cP hx3 (cP hx3 (cP hx3 (cP hx3 (cP hx3 (cP hx3 (cP hx3 (cP hx1 (cP hx2 (cP hx1 (cP hx2 (cP hx2 (cP hx2 (cP hx2 (cP hx1 (cP hx1 (cP hx1 (cP hx1 (cP hx0 (cP hx0 (cP hx0 (cP hx0 (cC (@slY (m3) l3 hs) (cE (@haB1 (k) (a) (b) (ns) (m3) hn h0 q3) nilE)))))))))))))))))))))))))))))))))))))))))))))))))) (by kernel_rfl) rfl rfl).to (by ((try simp (disch := omega) only [wrapId, sizeOne, sizeStr, List.length_cons, List.length_nil, wrapU8, toNatAdd, toNatSucc] at *) <;> (try simp only [Int.toNat_natCast, beq_iff_eq, beq_eq_false_iff_ne, bne_iff_ne, bne_eq_false_iff_eq, ne_eq, Int.natCast_eq_zero, Int.natCast_inj] at *) <;> first | (simp (disch := omega) [Ty.enc, wrapId, toNatPred, toNatAdd, toNatSucc, sizeOne, sizeStr, List.length_cons, List.length_nil, wrapU8, ltF, ltT, Ty.slD, *]; done) | (subst_vars; simp (disch := omega) [Ty.enc, wrapId, toNatPred, toNatAdd, toNatSucc, sizeOne, sizeStr, List.length_cons, List.length_nil, wrapU8, ltF, ltT, Ty.slD, *]; done)))
set_option maxHeartbeats 4000000 in
theorem hcD0 : hcD0_T := by
  intro k a b hs
  exact pV 12 [(11, .l (Ex.exit (2 : Nat)) (stH2fx k a b [] [] [] (0 : Nat))), (12, .v (V.d (D.bool false)))] (cC (@sfN (a) (b) hs) (cE (@haB0 (k) (a) (b)) nilE)) (by kernel_rfl) rfl rfl
set_option maxHeartbeats 4000000 in
theorem hcD1 : hcD1_T := by
  intro k a b hs h
  have hx0 : (decide (k < (1 : Int))) = true := by exact decide_eq_true (by omega)
  exact pV 12 [(11, .l (Ex.exit (2 : Nat)) (stH2fx k a b [] [] [] (0 : Nat))), (12, .v (V.d (D.bool true))), (19, bt), (20, bt), (21, bt), (22, bt)] (cP hx0 (cP hx0 (cP hx0 (cP hx0 (cC (@sfY (a) (b) hs) (cE (@haB0 (k) (a) (b)) nilE)))))) (by kernel_rfl) rfl rfl
set_option maxHeartbeats 4000000 in
theorem hcD2 : hcD2_T := by
  intro k a b hs h
  have hx0 : (decide (k < (1 : Int))) = false := by exact decide_eq_false (by omega)
  have hx1 : (decide (k > (8 : Int))) = true := by exact decide_eq_true (by omega)
  exact pV 12 [(11, .l (Ex.exit (2 : Nat)) (stH2fx k a b [] [] [] (0 : Nat))), (12, .v (V.d (D.bool true))), (19, bf), (20, bf), (22, bf), (24, bf), (25, bt), (26, bt), (27, bt), (28, bt), (29, bt), (30, bt)] (cP hx1 (cP hx1 (cP hx1 (cP hx1 (cP hx1 (cP hx1 (cP hx0 (cP hx0 (cP hx0 (cP hx0 (cC (@sfY (a) (b) hs) (cE (@haB0 (k) (a) (b)) nilE)))))))))))) (by kernel_rfl) rfl rfl
set_option maxHeartbeats 4000000 in
theorem hcD3 : hcD3_T := by
  intro k a b hs hk1 hk8 n2 n3 n5 n6 h
  have hx0 : (decide (k < (1 : Int))) = false := by exact decide_eq_false (by omega)
  have hx1 : (decide (k > (8 : Int))) = false := by exact decide_eq_false (by omega)
  rcases Bool.eq_false_or_eq_true (k != (1 : Int)) with hx2 | hx2
  · rcases Bool.eq_false_or_eq_true (k != (4 : Int)) with hx3 | hx3
    · have hx4 : (k == (2 : Int)) = false := by exact decide_eq_false (by omega)
      have hx5 : (k == (3 : Int)) = false := by exact decide_eq_false (by omega)
      have hx6 : (k == (5 : Int)) = false := by exact decide_eq_false (by omega)
      have hx7 : (k == (6 : Int)) = false := by exact decide_eq_false (by omega)
      have hx8 : (a == (0 : Int)) = false := by exact decide_eq_false (by omega)
      exact pV 12 [(11, .l (Ex.exit (2 : Nat)) (stH2fx k a b [] [] [] (0 : Nat))), (12, .v (V.d (D.bool true))), (19, bf), (20, bf), (22, bf), (24, bf), (25, bf), (26, bf), (28, bf), (30, bf), (31, bt), (32, bt), (34, bt), (36, bt), (38, bf), (39, bt), (40, bf), (47, bt), (48, bt), (50, bt), (52, bt), (53, bt), (55, bt), (57, bt), (59, bt), (62, bt), (67, bf), (68, bf), (70, bf), (72, bf), (73, bf), (74, bf), (76, bf), (78, bf), (79, bf), (80, bf), (82, bf), (84, bf), (85, bf), (86, bf), (88, bf), (90, bf), (91, bf), (92, bf), (93, bf), (94, bf)] (cP hx8 (cP hx8 (cP hx8 (cP hx8 (cP hx7 (cP hx7 (cP hx7 (cP hx7 (cP hx6 (cP hx6 (cP hx6 (cP hx6 (cP hx5 (cP hx5 (cP hx5 (cP hx5 (cP hx4 (cP hx4 (cP hx4 (cP hx4 (cP hx3 (cP hx3 (cP hx3 (cP hx3 (cP hx3 (cP hx3 (cP hx3 (cP hx3 (cP hx3 (cP hx1 (cP hx2 (cP hx1 (cP hx2 (cP hx2 (cP hx2 (cP hx2 (cP hx1 (cP hx1 (cP hx1 (cP hx1 (cP hx0 (cP hx0 (cP hx0 (cP hx0 (cC (@sfY (a) (b) hs) (cE (@haB0 (k) (a) (b)) nilE)))))))))))))))))))))))))))))))))))))))))))))) (by kernel_rfl) rfl rfl
    · have hx4 : (k == (2 : Int)) = false := by exact decide_eq_false (by omega)
      have hx5 : (k == (3 : Int)) = false := by exact decide_eq_false (by omega)
      have hx6 : (k == (5 : Int)) = false := by exact decide_eq_false (by omega)
      have hx7 : (k == (6 : Int)) = false := by exact decide_eq_false (by omega)
      have hx8 : (a == (0 : Int)) = false := by exact decide_eq_false (by omega)
      exact pV 12 [(11, .l (Ex.exit (2 : Nat)) (stH2fx k a b [] [] [] (0 : Nat))), (12, .v (V.d (D.bool true))), (19, bf), (20, bf), (22, bf), (24, bf), (25, bf), (26, bf), (28, bf), (30, bf), (31, bt), (32, bt), (34, bt), (36, bt), (38, bf), (39, bt), (40, bf), (47, bf), (48, bf), (49, bf), (50, bf), (51, bf), (52, bf), (53, bf), (54, bf), (56, bf), (61, bf), (62, bf), (64, bf), (66, bf), (67, bf), (68, bf), (70, bf), (72, bf), (73, bf), (74, bf), (76, bf), (78, bf), (79, bf), (80, bf), (82, bf), (84, bf), (85, bf), (86, bf), (87, bf), (88, bf)] (cP hx8 (cP hx8 (cP hx8 (cP hx8 (cP hx7 (cP hx7 (cP hx7 (cP hx7 (cP hx6 (cP hx6 (cP hx6 (cP hx6 (cP hx5 (cP hx5 (cP hx5 (cP hx5 (cP hx4 (cP hx4 (cP hx4 (cP hx4 (cP hx3 (cP hx3 (cP hx3 (cP hx3 (cP hx3 (cP hx3 (cP hx3 (cP hx3 (cP hx3 (cP hx1 (cP hx2 (cP hx1 (cP hx2 (cP hx2 (cP hx2 (cP hx2 (cP hx1 (cP hx1 (cP hx1 (cP hx1 (cP hx0 (cP hx0 (cP hx0 (cP hx0 (cC (@sfY (a) (b) hs) (cE (@haB0 (k) (a) (b)) nilE)))))))))))))))))))))))))))))))))))))))))))))) (by kernel_rfl) rfl rfl
  · have hx3 : (k != (4 : Int)) = true := by (first | assumption | (((try simp only [SA] at *); (try simp (disch := omega) only [SB, reduceCtorEq] at *)) <;> first | omega | assumption | (refine ⟨?_, ?_⟩ <;> assumption) | (refine ⟨?_, ?_, ?_⟩ <;> assumption) | (intros; assumption) | (right; right; assumption) | (right; left; assumption) | (left; assumption)))
    have hx4 : (k == (2 : Int)) = false := by exact decide_eq_false (by omega)
    have hx5 : (k == (3 : Int)) = false := by exact decide_eq_false (by omega)
    have hx6 : (k == (5 : Int)) = false := by exact decide_eq_false (by omega)
    have hx7 : (k == (6 : Int)) = false := by exact decide_eq_false (by omega)
    have hx8 : (a == (0 : Int)) = false := by exact decide_eq_false (by omega)
    exact pV 12 [(11, .l (Ex.exit (2 : Nat)) (stH2fx k a b [] [] [] (0 : Nat))), (12, .v (V.d (D.bool true))), (19, bf), (20, bf), (22, bf), (24, bf), (25, bf), (26, bf), (28, bf), (30, bf), (31, bf), (32, bf), (33, bf), (34, bf), (35, bf), (36, bf), (37, bf), (44, bt), (45, bt), (47, bt), (49, bt), (50, bt), (52, bt), (54, bt), (56, bt), (59, bt), (64, bf), (65, bf), (67, bf), (69, bf), (70, bf), (71, bf), (73, bf), (75, bf), (76, bf), (77, bf), (79, bf), (81, bf), (82, bf), (83, bf), (85, bf), (87, bf), (88, bf), (89, bf), (90, bf), (91, bf)] (cP hx8 (cP hx8 (cP hx8 (cP hx8 (cP hx7 (cP hx7 (cP hx7 (cP hx7 (cP hx6 (cP hx6 (cP hx6 (cP hx6 (cP hx5 (cP hx5 (cP hx5 (cP hx5 (cP hx4 (cP hx4 (cP hx4 (cP hx4 (cP hx3 (cP hx3 (cP hx3 (cP hx3 (cP hx3 (cP hx3 (cP hx3 (cP hx3 (cP hx3 (cP hx1 (cP hx2 (cP hx1 (cP hx2 (cP hx2 (cP hx2 (cP hx2 (cP hx1 (cP hx1 (cP hx1 (cP hx1 (cP hx0 (cP hx0 (cP hx0 (cP hx0 (cC (@sfY (a) (b) hs) (cE (@haB0 (k) (a) (b)) nilE)))))))))))))))))))))))))))))))))))))))))))))) (by kernel_rfl) rfl rfl
set_option maxHeartbeats 4000000 in
theorem hcD4 : hcD4_T := by
  intro k a b hs hk1 hk8 n2 n3 n5 n6 ha h
  have hx0 : (decide (k < (1 : Int))) = false := by exact decide_eq_false (by omega)
  have hx1 : (decide (k > (8 : Int))) = false := by exact decide_eq_false (by omega)
  rcases Bool.eq_false_or_eq_true (k != (1 : Int)) with hx2 | hx2
  · rcases Bool.eq_false_or_eq_true (k != (4 : Int)) with hx3 | hx3
    · have hx4 : (k == (2 : Int)) = false := by exact decide_eq_false (by omega)
      have hx5 : (k == (3 : Int)) = false := by exact decide_eq_false (by omega)
      have hx6 : (k == (5 : Int)) = false := by exact decide_eq_false (by omega)
      have hx7 : (k == (6 : Int)) = false := by exact decide_eq_false (by omega)
      have hx8 : (a == (0 : Int)) = true := by exact decide_eq_true (by omega)
      exact (pV (v := V.d (D.bool (b == (0 : Int)))) 12 [(11, .l (Ex.exit (2 : Nat)) (stH2fx k a b [] [] [] (0 : Nat))), (12, .v (V.d (D.bool true))), (19, bf), (20, bf), (22, bf), (24, bf), (25, bf), (26, bf), (28, bf), (30, bf), (31, bt), (32, bt), (34, bt), (36, bt), (38, bf), (39, bt), (40, bf), (47, bt), (48, bt), (50, bt), (52, bt), (53, bt), (55, bt), (57, bt), (59, bt), (62, bt), (67, bf), (68, bf), (70, bf), (72, bf), (73, bf), (74, bf), (76, bf), (78, bf), (79, bf), (80, bf), (82, bf), (84, bf), (85, bf), (86, bf), (88, bf), (90, bf), (91, bt), (92, bt), (93, bf), (94, bf), (96, bf), (98, bt), (99, bf), (100, bt)] (cP hx8 (cP hx5 (cP hx8 (cP hx5 (cP hx5 (cP hx5 (cP hx8 (cP hx8 (cP hx7 (cP hx7 (cP hx7 (cP hx7 (cP hx6 (cP hx6 (cP hx6 (cP hx6 (cP hx5 (cP hx5 (cP hx5 (cP hx5 (cP hx4 (cP hx4 (cP hx4 (cP hx4 (cP hx3 (cP hx3 (cP hx3 (cP hx3 (cP hx3 (cP hx3 (cP hx3 (cP hx3 (cP hx3 (cP hx1 (cP hx2 (cP hx1 (cP hx2 (cP hx2 (cP hx2 (cP hx2 (cP hx1 (cP hx1 (cP hx1 (cP hx1 (cP hx0 (cP hx0 (cP hx0 (cP hx0 (cC (@sfY (a) (b) hs) (cE (@haB0 (k) (a) (b)) nilE)))))))))))))))))))))))))))))))))))))))))))))))))) (by kernel_rfl) rfl rfl).to (by ((try simp (disch := omega) only [wrapId, sizeOne, sizeStr, List.length_cons, List.length_nil, wrapU8, toNatAdd, toNatSucc] at *) <;> (try simp only [Int.toNat_natCast, beq_iff_eq, beq_eq_false_iff_ne, bne_iff_ne, bne_eq_false_iff_eq, ne_eq, Int.natCast_eq_zero, Int.natCast_inj] at *) <;> first | (simp (disch := omega) [Ty.enc, wrapId, toNatPred, toNatAdd, toNatSucc, sizeOne, sizeStr, List.length_cons, List.length_nil, wrapU8, ltF, ltT, Ty.slD, *]; done) | (subst_vars; simp (disch := omega) [Ty.enc, wrapId, toNatPred, toNatAdd, toNatSucc, sizeOne, sizeStr, List.length_cons, List.length_nil, wrapU8, ltF, ltT, Ty.slD, *]; done)))
    · have hx4 : (k == (2 : Int)) = false := by exact decide_eq_false (by omega)
      have hx5 : (k == (3 : Int)) = false := by exact decide_eq_false (by omega)
      have hx6 : (k == (5 : Int)) = false := by exact decide_eq_false (by omega)
      have hx7 : (k == (6 : Int)) = false := by exact decide_eq_false (by omega)
      have hx8 : (a == (0 : Int)) = true := by exact decide_eq_true (by omega)
      exact (pV (v := V.d (D.bool (b == (0 : Int)))) 12 [(11, .l (Ex.exit (2 : Nat)) (stH2fx k a b [] [] [] (0 : Nat))), (12, .v (V.d (D.bool true))), (19, bf), (20, bf), (22, bf), (24, bf), (25, bf), (26, bf), (28, bf), (30, bf), (31, bt), (32, bt), (34, bt), (36, bt), (38, bf), (39, bt), (40, bf), (47, bf), (48, bf), (49, bf), (50, bf), (51, bf), (52, bf), (53, bf), (54, bf), (56, bf), (61, bf), (62, bf), (64, bf), (66, bf), (67, bf), (68, bf), (70, bf), (72, bf), (73, bf), (74, bf), (76, bf), (78, bf), (79, bf), (80, bf), (82, bf), (84, bf), (85, bt), (86, bt), (87, bf), (88, bf), (90, bf), (92, bt), (93, bf), (94, bt)] (cP hx8 (cP hx5 (cP hx8 (cP hx5 (cP hx5 (cP hx5 (cP hx8 (cP hx8 (cP hx7 (cP hx7 (cP hx7 (cP hx7 (cP hx6 (cP hx6 (cP hx6 (cP hx6 (cP hx5 (cP hx5 (cP hx5 (cP hx5 (cP hx4 (cP hx4 (cP hx4 (cP hx4 (cP hx3 (cP hx3 (cP hx3 (cP hx3 (cP hx3 (cP hx3 (cP hx3 (cP hx3 (cP hx3 (cP hx1 (cP hx2 (cP hx1 (cP hx2 (cP hx2 (cP hx2 (cP hx2 (cP hx1 (cP hx1 (cP hx1 (cP hx1 (cP hx0 (cP hx0 (cP hx0 (cP hx0 (cC (@sfY (a) (b) hs) (cE (@haB0 (k) (a) (b)) nilE)))))))))))))))))))))))))))))))))))))))))))))))))) (by kernel_rfl) rfl rfl).to (by ((try simp (disch := omega) only [wrapId, sizeOne, sizeStr, List.length_cons, List.length_nil, wrapU8, toNatAdd, toNatSucc] at *) <;> (try simp only [Int.toNat_natCast, beq_iff_eq, beq_eq_false_iff_ne, bne_iff_ne, bne_eq_false_iff_eq, ne_eq, Int.natCast_eq_zero, Int.natCast_inj] at *) <;> first | (simp (disch := omega) [Ty.enc, wrapId, toNatPred, toNatAdd, toNatSucc, sizeOne, sizeStr, List.length_cons, List.length_nil, wrapU8, ltF, ltT, Ty.slD, *]; done) | (subst_vars; simp (disch := omega) [Ty.enc, wrapId, toNatPred, toNatAdd, toNatSucc, sizeOne, sizeStr, List.length_cons, List.length_nil, wrapU8, ltF, ltT, Ty.slD, *]; done)))
  · have hx3 : (k != (4 : Int)) = true := by (first | assumption | (((try simp only [SA] at *); (try simp (disch := omega) only [SB, reduceCtorEq] at *)) <;> first | omega | assumption | (refine ⟨?_, ?_⟩ <;> assumption) | (refine ⟨?_, ?_, ?_⟩ <;> assumption) | (intros; assumption) | (right; right; assumption) | (right; left; assumption) | (left; assumption)))
    have hx4 : (k == (2 : Int)) = false := by exact decide_eq_false (by omega)
    have hx5 : (k == (3 : Int)) = false := by exact decide_eq_false (by omega)
    have hx6 : (k == (5 : Int)) = false := by exact decide_eq_false (by omega)
    have hx7 : (k == (6 : Int)) = false := by exact decide_eq_false (by omega)
    have hx8 : (a == (0 : Int)) = true := by exact decide_eq_true (by omega)
    exact (pV (v := V.d (D.bool (b == (0 : Int)))) 12 [(11, .l (Ex.exit (2 : Nat)) (stH2fx k a b [] [] [] (0 : Nat))), (12, .v (V.d (D.bool true))), (19, bf), (20, bf), (22, bf), (24, bf), (25, bf), (26, bf), (28, bf), (30, bf), (31, bf), (32, bf), (33, bf), (34, bf), (35, bf), (36, bf), (37, bf), (44, bt), (45, bt), (47, bt), (49, bt), (50, bt), (52, bt), (54, bt), (56, bt), (59, bt), (64, bf), (65, bf), (67, bf), (69, bf), (70, bf), (71, bf), (73, bf), (75, bf), (76, bf), (77, bf), (79, bf), (81, bf), (82, bf), (83, bf), (85, bf), (87, bf), (88, bt), (89, bt), (90, bf), (91, bf), (93, bf), (95, bt), (96, bf), (97, bt)] (cP hx8 (cP hx5 (cP hx8 (cP hx5 (cP hx5 (cP hx5 (cP hx8 (cP hx8 (cP hx7 (cP hx7 (cP hx7 (cP hx7 (cP hx6 (cP hx6 (cP hx6 (cP hx6 (cP hx5 (cP hx5 (cP hx5 (cP hx5 (cP hx4 (cP hx4 (cP hx4 (cP hx4 (cP hx3 (cP hx3 (cP hx3 (cP hx3 (cP hx3 (cP hx3 (cP hx3 (cP hx3 (cP hx3 (cP hx1 (cP hx2 (cP hx1 (cP hx2 (cP hx2 (cP hx2 (cP hx2 (cP hx1 (cP hx1 (cP hx1 (cP hx1 (cP hx0 (cP hx0 (cP hx0 (cP hx0 (cC (@sfY (a) (b) hs) (cE (@haB0 (k) (a) (b)) nilE)))))))))))))))))))))))))))))))))))))))))))))))))) (by kernel_rfl) rfl rfl).to (by ((try simp (disch := omega) only [wrapId, sizeOne, sizeStr, List.length_cons, List.length_nil, wrapU8, toNatAdd, toNatSucc] at *) <;> (try simp only [Int.toNat_natCast, beq_iff_eq, beq_eq_false_iff_ne, bne_iff_ne, bne_eq_false_iff_eq, ne_eq, Int.natCast_eq_zero, Int.natCast_inj] at *) <;> first | (simp (disch := omega) [Ty.enc, wrapId, toNatPred, toNatAdd, toNatSucc, sizeOne, sizeStr, List.length_cons, List.length_nil, wrapU8, ltF, ltT, Ty.slD, *]; done) | (subst_vars; simp (disch := omega) [Ty.enc, wrapId, toNatPred, toNatAdd, toNatSucc, sizeOne, sizeStr, List.length_cons, List.length_nil, wrapU8, ltF, ltT, Ty.slD, *]; done)))
set_option maxHeartbeats 4000000 in
theorem hcD5 : hcD5_T := by
  intro k a b hs hk h
  have hx0 : (decide (k < (1 : Int))) = false := by exact decide_eq_false (by omega)
  have hx1 : (decide (k > (8 : Int))) = false := by exact decide_eq_false (by omega)
  have hx2 : (k != (1 : Int)) = true := by simp [*]
  have hx3 : (k != (4 : Int)) = true := by simp [*]
  have hx4 : (k == (2 : Int)) = false := by exact decide_eq_false (by omega)
  have hx5 : (k == (3 : Int)) = false := by exact decide_eq_false (by omega)
  have hx6 : (k == (5 : Int)) = true := by exact decide_eq_true (by omega)
  exact (pV (v := V.d (D.bool (b == (0 : Int)))) 12 [(11, .l (Ex.exit (2 : Nat)) (stH2fx k a b [] [] [] (0 : Nat))), (12, .v (V.d (D.bool true))), (19, bf), (20, bf), (22, bf), (24, bf), (25, bf), (26, bf), (28, bf), (30, bf), (31, bt), (32, bt), (34, bt), (36, bt), (38, bf), (39, bt), (40, bf), (47, bt), (48, bt), (50, bt), (52, bt), (53, bt), (55, bt), (57, bt), (59, bt), (62, bt), (67, bf), (68, bf), (70, bf), (72, bf), (73, bf), (74, bf), (76, bf), (78, bf), (79, bt), (80, bt), (81, bt), (82, bt), (89, bf), (90, bf), (92, bf), (95, bf)] (cP hx5 (cP hx5 (cP hx5 (cP hx5 (cP hx6 (cP hx6 (cP hx6 (cP hx6 (cP hx5 (cP hx5 (cP hx5 (cP hx5 (cP hx4 (cP hx4 (cP hx4 (cP hx4 (cP hx3 (cP hx3 (cP hx3 (cP hx3 (cP hx3 (cP hx3 (cP hx3 (cP hx3 (cP hx3 (cP hx1 (cP hx2 (cP hx1 (cP hx2 (cP hx2 (cP hx2 (cP hx2 (cP hx1 (cP hx1 (cP hx1 (cP hx1 (cP hx0 (cP hx0 (cP hx0 (cP hx0 (cC (@sfY (a) (b) hs) (cE (@haB0 (k) (a) (b)) nilE)))))))))))))))))))))))))))))))))))))))))) (by kernel_rfl) rfl rfl).to (by ((try simp (disch := omega) only [wrapId, sizeOne, sizeStr, List.length_cons, List.length_nil, wrapU8, toNatAdd, toNatSucc] at *) <;> (try simp only [Int.toNat_natCast, beq_iff_eq, beq_eq_false_iff_ne, bne_iff_ne, bne_eq_false_iff_eq, ne_eq, Int.natCast_eq_zero, Int.natCast_inj] at *) <;> first | (simp (disch := omega) [Ty.enc, wrapId, toNatPred, toNatAdd, toNatSucc, sizeOne, sizeStr, List.length_cons, List.length_nil, wrapU8, ltF, ltT, Ty.slD, *]; done) | (subst_vars; simp (disch := omega) [Ty.enc, wrapId, toNatPred, toNatAdd, toNatSucc, sizeOne, sizeStr, List.length_cons, List.length_nil, wrapU8, ltF, ltT, Ty.slD, *]; done)))
set_option maxHeartbeats 4000000 in
theorem hcD6 : hcD6_T := by
  intro k a b hs hk h
  have hx0 : (decide (k < (1 : Int))) = false := by exact decide_eq_false (by omega)
  have hx1 : (decide (k > (8 : Int))) = false := by exact decide_eq_false (by omega)
  have hx2 : (k != (1 : Int)) = true := by simp [*]
  have hx3 : (k != (4 : Int)) = true := by simp [*]
  have hx4 : (k == (2 : Int)) = false := by exact decide_eq_false (by omega)
  have hx5 : (k == (3 : Int)) = false := by exact decide_eq_false (by omega)
  have hx6 : (k == (5 : Int)) = false := by exact decide_eq_false (by omega)
  have hx7 : (k == (6 : Int)) = true := by exact decide_eq_true (by omega)
  exact (pV (v := V.d (D.bool (b == (0 : Int)))) 12 [(11, .l (Ex.exit (2 : Nat)) (stH2fx k a b [] [] [] (0 : Nat))), (12, .v (V.d (D.bool true))), (19, bf), (20, bf), (22, bf), (24, bf), (25, bf), (26, bf), (28, bf), (30, bf), (31, bt), (32, bt), (34, bt), (36, bt), (38, bf), (39, bt), (40, bf), (47, bt), (48, bt), (50, bt), (52, bt), (53, bt), (55, bt), (57, bt), (59, bt), (62, bt), (67, bf), (68, bf), (70, bf), (72, bf), (73, bf), (74, bf), (76, bf), (78, bf), (79, bf), (80, bf), (82, bf), (84, bf), (85, bt), (86, bt), (87, bt), (88, bt), (91, bf), (92, bf), (94, bf), (97, bf)] (cP hx5 (cP hx5 (cP hx5 (cP hx5 (cP hx7 (cP hx7 (cP hx7 (cP hx7 (cP hx6 (cP hx6 (cP hx6 (cP hx6 (cP hx5 (cP hx5 (cP hx5 (cP hx5 (cP hx4 (cP hx4 (cP hx4 (cP hx4 (cP hx3 (cP hx3 (cP hx3 (cP hx3 (cP hx3 (cP hx3 (cP hx3 (cP hx3 (cP hx3 (cP hx1 (cP hx2 (cP hx1 (cP hx2 (cP hx2 (cP hx2 (cP hx2 (cP hx1 (cP hx1 (cP hx1 (cP hx1 (cP hx0 (cP hx0 (cP hx0 (cP hx0 (cC (@sfY (a) (b) hs) (cE (@haB0 (k) (a) (b)) nilE)))))))))))))))))))))))))))))))))))))))))))))) (by kernel_rfl) rfl rfl).to (by ((try simp (disch := omega) only [wrapId, sizeOne, sizeStr, List.length_cons, List.length_nil, wrapU8, toNatAdd, toNatSucc] at *) <;> (try simp only [Int.toNat_natCast, beq_iff_eq, beq_eq_false_iff_ne, bne_iff_ne, bne_eq_false_iff_eq, ne_eq, Int.natCast_eq_zero, Int.natCast_inj] at *) <;> first | (simp (disch := omega) [Ty.enc, wrapId, toNatPred, toNatAdd, toNatSucc, sizeOne, sizeStr, List.length_cons, List.length_nil, wrapU8, ltF, ltT, Ty.slD, *]; done) | (subst_vars; simp (disch := omega) [Ty.enc, wrapId, toNatPred, toNatAdd, toNatSucc, sizeOne, sizeStr, List.length_cons, List.length_nil, wrapU8, ltF, ltT, Ty.slD, *]; done)))
set_option maxHeartbeats 4000000 in
theorem hcE0 : hcE0_T := by
  intro k a b hs hk1 hk8 n2 n3 n5 n6 ha hb
  have hx0 : (decide (k < (1 : Int))) = false := by exact decide_eq_false (by omega)
  have hx1 : (decide (k > (8 : Int))) = false := by exact decide_eq_false (by omega)
  rcases Bool.eq_false_or_eq_true (k != (1 : Int)) with hx2 | hx2
  · rcases Bool.eq_false_or_eq_true (k != (4 : Int)) with hx3 | hx3
    · have hx4 : (k == (2 : Int)) = false := by exact decide_eq_false (by omega)
      have hx5 : (k == (3 : Int)) = false := by exact decide_eq_false (by omega)
      have hx6 : (k == (5 : Int)) = false := by exact decide_eq_false (by omega)
      have hx7 : (k == (6 : Int)) = false := by exact decide_eq_false (by omega)
      have hx8 : (a == (0 : Int)) = true := by exact decide_eq_true (by omega)
      exact (pV (v := V.d (D.bool (b == (0 : Int)))) 12 [(11, .l (Ex.exit (2 : Nat)) (stH2fx k a b [] [] [] (0 : Nat))), (12, .v (V.d (D.bool true))), (19, bf), (20, bf), (22, bf), (24, bf), (25, bf), (26, bf), (28, bf), (30, bf), (31, bt), (32, bt), (34, bt), (36, bt), (38, bf), (39, bt), (40, bf), (47, bt), (48, bt), (50, bt), (52, bt), (53, bt), (55, bt), (57, bt), (59, bt), (62, bt), (67, bf), (68, bf), (70, bf), (72, bf), (73, bf), (74, bf), (76, bf), (78, bf), (79, bf), (80, bf), (82, bf), (84, bf), (85, bf), (86, bf), (88, bf), (90, bf), (91, bt), (92, bt), (93, bf), (94, bf), (96, bf), (98, bt), (99, bf), (100, bt)] (cP hx8 (cP hx5 (cP hx8 (cP hx5 (cP hx5 (cP hx5 (cP hx8 (cP hx8 (cP hx7 (cP hx7 (cP hx7 (cP hx7 (cP hx6 (cP hx6 (cP hx6 (cP hx6 (cP hx5 (cP hx5 (cP hx5 (cP hx5 (cP hx4 (cP hx4 (cP hx4 (cP hx4 (cP hx3 (cP hx3 (cP hx3 (cP hx3 (cP hx3 (cP hx3 (cP hx3 (cP hx3 (cP hx3 (cP hx1 (cP hx2 (cP hx1 (cP hx2 (cP hx2 (cP hx2 (cP hx2 (cP hx1 (cP hx1 (cP hx1 (cP hx1 (cP hx0 (cP hx0 (cP hx0 (cP hx0 (cC (@sfY (a) (b) hs) (cE (@haB0 (k) (a) (b)) nilE)))))))))))))))))))))))))))))))))))))))))))))))))) (by kernel_rfl) rfl rfl).to (by ((try simp (disch := omega) only [wrapId, sizeOne, sizeStr, List.length_cons, List.length_nil, wrapU8, toNatAdd, toNatSucc] at *) <;> (try simp only [Int.toNat_natCast, beq_iff_eq, beq_eq_false_iff_ne, bne_iff_ne, bne_eq_false_iff_eq, ne_eq, Int.natCast_eq_zero, Int.natCast_inj] at *) <;> first | (simp (disch := omega) [Ty.enc, wrapId, toNatPred, toNatAdd, toNatSucc, sizeOne, sizeStr, List.length_cons, List.length_nil, wrapU8, ltF, ltT, Ty.slD, *]; done) | (subst_vars; simp (disch := omega) [Ty.enc, wrapId, toNatPred, toNatAdd, toNatSucc, sizeOne, sizeStr, List.length_cons, List.length_nil, wrapU8, ltF, ltT, Ty.slD, *]; done)))
    · have hx4 : (k == (2 : Int)) = false := by exact decide_eq_false (by omega)
      have hx5 : (k == (3 : Int)) = false := by exact decide_eq_false (by omega)
      have hx6 : (k == (5 : Int)) = false := by exact decide_eq_false (by omega)
      have hx7 : (k == (6 : Int)) = false := by exact decide_eq_false (by omega)
      have hx8 : (a == (0 : Int)) = true := by exact decide_eq_true (by omega)
      exact (pV (v := V.d (D.bool (b == (0 : Int)))) 12 [(11, .l (Ex.exit (2 : Nat)) (stH2fx k a b [] [] [] (0 : Nat))), (12, .v (V.d (D.bool true))), (19, bf), (20, bf), (22, bf), (24, bf), (25, bf), (26, bf), (28, bf), (30, bf), (31, bt), (32, bt), (34, bt), (36, bt), (38, bf), (39, bt), (40, bf), (47, bf), (48, bf), (49, bf), (50, bf), (51, bf), (52, bf), (53, bf), (54, bf), (56, bf), (61, bf), (62, bf), (64, bf), (66, bf), (67, bf), (68, bf), (70, bf), (72, bf), (73, bf), (74, bf), (76, bf), (78, bf), (79, bf), (80, bf), (82, bf), (84, bf), (85, bt), (86, bt), (87, bf), (88, bf), (90, bf), (92, bt), (93, bf), (94, bt)] (cP hx8 (cP hx5 (cP hx8 (cP hx5 (cP hx5 (cP hx5 (cP hx8 (cP hx8 (cP hx7 (cP hx7 (cP hx7 (cP hx7 (cP hx6 (cP hx6 (cP hx6 (cP hx6 (cP hx5 (cP hx5 (cP hx5 (cP hx5 (cP hx4 (cP hx4 (cP hx4 (cP hx4 (cP hx3 (cP hx3 (cP hx3 (cP hx3 (cP hx3 (cP hx3 (cP hx3 (cP hx3 (cP hx3 (cP hx1 (cP hx2 (cP hx1 (cP hx2 (cP hx2 (cP hx2 (cP hx2 (cP hx1 (cP hx1 (cP hx1 (cP hx1 (cP hx0 (cP hx0 (cP hx0 (cP hx0 (cC (@sfY (a) (b) hs) (cE (@haB0 (k) (a) (b)) nilE)))))))))))))))))))))))))))))))))))))))))))))))))) (by kernel_rfl) rfl rfl).to (by ((try simp (disch := omega) only [wrapId, sizeOne, sizeStr, List.length_cons, List.length_nil, wrapU8, toNatAdd, toNatSucc] at *) <;> (try simp only [Int.toNat_natCast, beq_iff_eq, beq_eq_false_iff_ne, bne_iff_ne, bne_eq_false_iff_eq, ne_eq, Int.natCast_eq_zero, Int.natCast_inj] at *) <;> first | (simp (disch := omega) [Ty.enc, wrapId, toNatPred, toNatAdd, toNatSucc, sizeOne, sizeStr, List.length_cons, List.length_nil, wrapU8, ltF, ltT, Ty.slD, *]; done) | (subst_vars; simp (disch := omega) [Ty.enc, wrapId, toNatPred, toNatAdd, toNatSucc, sizeOne, sizeStr, List.length_cons, List.length_nil, wrapU8, ltF, ltT, Ty.slD, *]; done)))
  · have hx3 : (k != (4 : Int)) = true := by (first | assumption | (((try simp only [SA] at *); (try simp (disch := omega) only [SB, reduceCtorEq] at *)) <;> first | omega | assumption | (refine ⟨?_, ?_⟩ <;> assumption) | (refine ⟨?_, ?_, ?_⟩ <;> assumption) | (intros; assumption) | (right; right; assumption) | (right; left; assumption) | (left; assumption)))
    have hx4 : (k == (2 : Int)) = false := by exact decide_eq_false (by omega)
    have hx5 : (k == (3 : Int)) = false := by exact decide_eq_false (by omega)
    have hx6 : (k == (5 : Int)) = false := by exact decide_eq_false (by omega)
    have hx7 : (k == (6 : Int)) = false := by exact decide_eq_false (by omega)
    have hx8 : (a == (0 : Int)) = true := by exact decide_eq_true (by omega)
    exact (pV (v := V.d (D.bool (b == (0 : Int)))) 12 [(11, .l (Ex.exit (2 : Nat)) (stH2fx k a b [] [] [] (0 : Nat))), (12, .v (V.d (D.bool true))), (19, bf), (20, bf), (22, bf), (24, bf), (25, bf), (26, bf), (28, bf), (30, bf), (31, bf), (32, bf), (33, bf), (34, bf), (35, bf), (36, bf), (37, bf), (44, bt), (45, bt), (47, bt), (49, bt), (50, bt), (52, bt), (54, bt), (56, bt), (59, bt), (64, bf), (65, bf), (67, bf), (69, bf), (70, bf), (71, bf), (73, bf), (75, bf), (76, bf), (77, bf), (79, bf), (81, bf), (82, bf), (83, bf), (85, bf), (87, bf), (88, bt), (89, bt), (90, bf), (91, bf), (93, bf), (95, bt), (96, bf), (97, bt)] (cP hx8 (cP hx5 (cP hx8 (cP hx5 (cP hx5 (cP hx5 (cP hx8 (cP hx8 (cP hx7 (cP hx7 (cP hx7 (cP hx7 (cP hx6 (cP hx6 (cP hx6 (cP hx6 (cP hx5 (cP hx5 (cP hx5 (cP hx5 (cP hx4 (cP hx4 (cP hx4 (cP hx4 (cP hx3 (cP hx3 (cP hx3 (cP hx3 (cP hx3 (cP hx3 (cP hx3 (cP hx3 (cP hx3 (cP hx1 (cP hx2 (cP hx1 (cP hx2 (cP hx2 (cP hx2 (cP hx2 (cP hx1 (cP hx1 (cP hx1 (cP hx1 (cP hx0 (cP hx0 (cP hx0 (cP hx0 (cC (@sfY (a) (b) hs) (cE (@haB0 (k) (a) (b)) nilE)))))))))))))))))))))))))))))))))))))))))))))))))) (by kernel_rfl) rfl rfl).to (by ((try simp (disch := omega) only [wrapId, sizeOne, sizeStr, List.length_cons, List.length_nil, wrapU8, toNatAdd, toNatSucc] at *) <;> (try simp only [Int.toNat_natCast, beq_iff_eq, beq_eq_false_iff_ne, bne_iff_ne, bne_eq_false_iff_eq, ne_eq, Int.natCast_eq_zero, Int.natCast_inj] at *) <;> first | (simp (disch := omega) [Ty.enc, wrapId, toNatPred, toNatAdd, toNatSucc, sizeOne, sizeStr, List.length_cons, List.length_nil, wrapU8, ltF, ltT, Ty.slD, *]; done) | (subst_vars; simp (disch := omega) [Ty.enc, wrapId, toNatPred, toNatAdd, toNatSucc, sizeOne, sizeStr, List.length_cons, List.length_nil, wrapU8, ltF, ltT, Ty.slD, *]; done)))
set_option maxHeartbeats 4000000 in
theorem hcE2 : hcE2_T := by
  intro k a b hs hk
  have hx0 : (decide (k < (1 : Int))) = false := by exact decide_eq_false (by omega)
  have hx1 : (decide (k > (8 : Int))) = false := by exact decide_eq_false (by omega)
  have hx2 : (k != (1 : Int)) = true := by simp [*]
  have hx3 : (k != (4 : Int)) = true := by simp [*]
  have hx4 : (k == (2 : Int)) = true := by exact decide_eq_true (by omega)
  exact pV 12 [(11, .l (Ex.exit (2 : Nat)) (stH2fx k a b [] [] [] (0 : Nat))), (12, .v (V.d (D.bool true))), (19, bf), (20, bf), (22, bf), (24, bf), (25, bf), (26, bf), (28, bf), (30, bf), (31, bt), (32, bt), (34, bt), (36, bt), (38, bf), (39, bt), (40, bf), (47, bt), (48, bt), (50, bt), (52, bt), (53, bt), (55, bt), (57, bt), (59, bt), (62, bt), (67, bt), (68, bt), (69, bt), (70, bt)] (cP hx4 (cP hx4 (cP hx4 (cP hx4 (cP hx3 (cP hx3 (cP hx3 (cP hx3 (cP hx3 (cP hx3 (cP hx3 (cP hx3 (cP hx3 (cP hx1 (cP hx2 (cP hx1 (cP hx2 (cP hx2 (cP hx2 (cP hx2 (cP hx1 (cP hx1 (cP hx1 (cP hx1 (cP hx0 (cP hx0 (cP hx0 (cP hx0 (cC (@sfY (a) (b) hs) (cE (@haB0 (k) (a) (b)) nilE)))))))))))))))))))))))))))))) (by kernel_rfl) rfl rfl
set_option maxHeartbeats 4000000 in
theorem hcE3 : hcE3_T := by
  intro k a b hs hk
  have hx0 : (decide (k < (1 : Int))) = false := by exact decide_eq_false (by omega)
  have hx1 : (decide (k > (8 : Int))) = false := by exact decide_eq_false (by omega)
  have hx2 : (k != (1 : Int)) = true := by simp [*]
  have hx3 : (k != (4 : Int)) = true := by simp [*]
  have hx4 : (k == (2 : Int)) = false := by exact decide_eq_false (by omega)
  have hx5 : (k == (3 : Int)) = true := by exact decide_eq_true (by omega)
  exact pV 12 [(11, .l (Ex.exit (2 : Nat)) (stH2fx k a b [] [] [] (0 : Nat))), (12, .v (V.d (D.bool true))), (19, bf), (20, bf), (22, bf), (24, bf), (25, bf), (26, bf), (28, bf), (30, bf), (31, bt), (32, bt), (34, bt), (36, bt), (38, bf), (39, bt), (40, bf), (47, bt), (48, bt), (50, bt), (52, bt), (53, bt), (55, bt), (57, bt), (59, bt), (62, bt), (67, bf), (68, bf), (70, bf), (72, bf), (73, bt), (74, bt), (75, bt), (76, bt), (87, bt), (88, bt), (89, bt), (91, bt)] (cP hx5 (cP hx5 (cP hx5 (cP hx5 (cP hx5 (cP hx5 (cP hx5 (cP hx5 (cP hx4 (cP hx4 (cP hx4 (cP hx4 (cP hx3 (cP hx3 (cP hx3 (cP hx3 (cP hx3 (cP hx3 (cP hx3 (cP hx3 (cP hx3 (cP hx1 (cP hx2 (cP hx1 (cP hx2 (cP hx2 (cP hx2 (cP hx2 (cP hx1 (cP hx1 (cP hx1 (cP hx1 (cP hx0 (cP hx0 (cP hx0 (cP hx0 (cC (@sfY (a) (b) hs) (cE (@haB0 (k) (a) (b)) nilE)))))))))))))))))))))))))))))))))))))) (by kernel_rfl) rfl rfl
set_option maxHeartbeats 4000000 in
theorem hcE5 : hcE5_T := by
  intro k a b hs hk hb
  have hx0 : (decide (k < (1 : Int))) = false := by exact decide_eq_false (by omega)
  have hx1 : (decide (k > (8 : Int))) = false := by exact decide_eq_false (by omega)
  have hx2 : (k != (1 : Int)) = true := by simp [*]
  have hx3 : (k != (4 : Int)) = true := by simp [*]
  have hx4 : (k == (2 : Int)) = false := by exact decide_eq_false (by omega)
  have hx5 : (k == (3 : Int)) = false := by exact decide_eq_false (by omega)
  have hx6 : (k == (5 : Int)) = true := by exact decide_eq_true (by omega)
  exact (pV (v := V.d (D.bool (b == (0 : Int)))) 12 [(11, .l (Ex.exit (2 : Nat)) (stH2fx k a b [] [] [] (0 : Nat))), (12, .v (V.d (D.bool true))), (19, bf), (20, bf), (22, bf), (24, bf), (25, bf), (26, bf), (28, bf), (30, bf), (31, bt), (32, bt), (34, bt), (36, bt), (38, bf), (39, bt), (40, bf), (47, bt), (48, bt), (50, bt), (52, bt), (53, bt), (55, bt), (57, bt), (59, bt), (62, bt), (67, bf), (68, bf), (70, bf), (72, bf), (73, bf), (74, bf), (76, bf), (78, bf), (79, bt), (80, bt), (81, bt), (82, bt), (89, bf), (90, bf), (92, bf), (95, bf)] (cP hx5 (cP hx5 (cP hx5 (cP hx5 (cP hx6 (cP hx6 (cP hx6 (cP hx6 (cP hx5 (cP hx5 (cP hx5 (cP hx5 (cP hx4 (cP hx4 (cP hx4 (cP hx4 (cP hx3 (cP hx3 (cP hx3 (cP hx3 (cP hx3 (cP hx3 (cP hx3 (cP hx3 (cP hx3 (cP hx1 (cP hx2 (cP hx1 (cP hx2 (cP hx2 (cP hx2 (cP hx2 (cP hx1 (cP hx1 (cP hx1 (cP hx1 (cP hx0 (cP hx0 (cP hx0 (cP hx0 (cC (@sfY (a) (b) hs) (cE (@haB0 (k) (a) (b)) nilE)))))))))))))))))))))))))))))))))))))))))) (by kernel_rfl) rfl rfl).to (by ((try simp (disch := omega) only [wrapId, sizeOne, sizeStr, List.length_cons, List.length_nil, wrapU8, toNatAdd, toNatSucc] at *) <;> (try simp only [Int.toNat_natCast, beq_iff_eq, beq_eq_false_iff_ne, bne_iff_ne, bne_eq_false_iff_eq, ne_eq, Int.natCast_eq_zero, Int.natCast_inj] at *) <;> first | (simp (disch := omega) [Ty.enc, wrapId, toNatPred, toNatAdd, toNatSucc, sizeOne, sizeStr, List.length_cons, List.length_nil, wrapU8, ltF, ltT, Ty.slD, *]; done) | (subst_vars; simp (disch := omega) [Ty.enc, wrapId, toNatPred, toNatAdd, toNatSucc, sizeOne, sizeStr, List.length_cons, List.length_nil, wrapU8, ltF, ltT, Ty.slD, *]; done)))
set_option maxHeartbeats 4000000 in
theorem hcE6 : hcE6_T := by
  intro k a b hs hk hb
  have hx0 : (decide (k < (1 : Int))) = false := by exact decide_eq_false (by omega)
  have hx1 : (decide (k > (8 : Int))) = false := by exact decide_eq_false (by omega)
  have hx2 : (k != (1 : Int)) = true := by simp [*]
  have hx3 : (k != (4 : Int)) = true := by simp [*]
  have hx4 : (k == (2 : Int)) = false := by exact decide_eq_false (by omega)
  have hx5 : (k == (3 : Int)) = false := by exact decide_eq_false (by omega)
  have hx6 : (k == (5 : Int)) = false := by exact decide_eq_false (by omega)
  have hx7 : (k == (6 : Int)) = true := by exact decide_eq_true (by omega)
  exact (pV (v := V.d (D.bool (b == (0 : Int)))) 12 [(11, .l (Ex.exit (2 : Nat)) (stH2fx k a b [] [] [] (0 : Nat))), (12, .v (V.d (D.bool true))), (19, bf), (20, bf), (22, bf), (24, bf), (25, bf), (26, bf), (28, bf), (30, bf), (31, bt), (32, bt), (34, bt), (36, bt), (38, bf), (39, bt), (40, bf), (47, bt), (48, bt), (50, bt), (52, bt), (53, bt), (55, bt), (57, bt), (59, bt), (62, bt), (67, bf), (68, bf), (70, bf), (72, bf), (73, bf), (74, bf), (76, bf), (78, bf), (79, bf), (80, bf), (82, bf), (84, bf), (85, bt), (86, bt), (87, bt), (88, bt), (91, bf), (92, bf), (94, bf), (97, bf)] (cP hx5 (cP hx5 (cP hx5 (cP hx5 (cP hx7 (cP hx7 (cP hx7 (cP hx7 (cP hx6 (cP hx6 (cP hx6 (cP hx6 (cP hx5 (cP hx5 (cP hx5 (cP hx5 (cP hx4 (cP hx4 (cP hx4 (cP hx4 (cP hx3 (cP hx3 (cP hx3 (cP hx3 (cP hx3 (cP hx3 (cP hx3 (cP hx3 (cP hx3 (cP hx1 (cP hx2 (cP hx1 (cP hx2 (cP hx2 (cP hx2 (cP hx2 (cP hx1 (cP hx1 (cP hx1 (cP hx1 (cP hx0 (cP hx0 (cP hx0 (cP hx0 (cC (@sfY (a) (b) hs) (cE (@haB0 (k) (a) (b)) nilE)))))))))))))))))))))))))))))))))))))))))))))) (by kernel_rfl) rfl rfl).to (by ((try simp (disch := omega) only [wrapId, sizeOne, sizeStr, List.length_cons, List.length_nil, wrapU8, toNatAdd, toNatSucc] at *) <;> (try simp only [Int.toNat_natCast, beq_iff_eq, beq_eq_false_iff_ne, bne_iff_ne, bne_eq_false_iff_eq, ne_eq, Int.natCast_eq_zero, Int.natCast_inj] at *) <;> first | (simp (disch := omega) [Ty.enc, wrapId, toNatPred, toNatAdd, toNatSucc, sizeOne, sizeStr, List.length_cons, List.length_nil, wrapU8, ltF, ltT, Ty.slD, *]; done) | (subst_vars; simp (disch := omega) [Ty.enc, wrapId, toNatPred, toNatAdd, toNatSucc, sizeOne, sizeStr, List.length_cons, List.length_nil, wrapU8, ltF, ltT, Ty.slD, *]; done)))
end Go.Proofs.YtgiahagbmgnmkaaDoor.Script
/- Script: Has, Large, Line as one; the reference's Line: loops; statements of the law ScriptLines. -/
set_option linter.unusedVariables false
set_option linter.unusedSimpArgs false
namespace Go.Proofs.YtgiahagbmgnmkaaDoor.Script
open Go Pv G
/- operations that are gone through -/
def numsO (a b : Int) (es : List Edit) (rs : List Int) (ns : List Inl) : List Int := [a, b] ++ es.flatMap neE ++ rs ++ ns.flatMap neN
def TwoK (k : Int) : Prop := k = 2 ∨ k = 3
def OneK (k : Int) : Prop := k = 2 ∨ k = 3 ∨ k = 5 ∨ k = 6
/-- Has an operation a line? -/
def HasO (k a b : Int) (es : List Edit) (rs : List Int) (ns : List Inl) : Prop :=
  smallL (numsO a b es rs ns) = true ∧ 1 ≤ k ∧ k ≤ 8 ∧ (k = 1 ∨ es = []) ∧ (k = 4 ∨ (rs = [] ∧ ns = [])) ∧ (OneK k ∨ a = 0) ∧ (TwoK k ∨ b = 0)
theorem neE_len (l : List Edit) : (l.flatMap neE).length = 2 * l.length := by
  induction l with
  | nil => rfl
  | cons x l ih => rw [List.flatMap_cons, List.length_append, ih]; simp [neE]; omega
theorem neN_len (l : List Inl) : (l.flatMap neN).length = 4 * l.length := by
  induction l with
  | nil => rfl
  | cons x l ih => rw [List.flatMap_cons, List.length_append, ih]; simp [neN]; omega
theorem posNe {α : Type} {l : List α} (h : 0 < l.length) : l ≠ [] := fun e => by rw [e] at h; simp at h
theorem lenNil {α : Type} {l : List α} (h : l.length = 0) : l = [] := List.eq_nil_of_length_eq_zero h
theorem hasBoth (k a b : Int) (es : List Edit) (rs : List Int) (ns : List Inl) (h1 : es.length ≤ 70) (h2 : rs.length ≤ 70) (h3 : ns.length ≤ 70) :
    (HasO k a b es rs ns → Ans X0 FHa [.d (opR k a b es rs ns)] (.d (.bool true))) ∧ (¬ HasO k a b es rs ns → Ans X0 FHa [.d (opR k a b es rs ns)] (.d (.bool false))) := by
  have le := neE_len es
  have ln := neN_len ns
  by_cases he : 0 < es.length
  · have c1 : ([a, b] ++ es.flatMap neE).length ≤ 300 := by simp only [List.length_append, List.length_cons, List.length_nil]; omega
    have c2 : ([a, b] ++ es.flatMap neE ++ rs).length ≤ 1000 := by simp only [List.length_append, List.length_cons, List.length_nil]; omega
    have c3 : ([a, b] ++ es.flatMap neE ++ rs ++ ns.flatMap neN).length ≤ 1000000 := by simp only [List.length_append, List.length_cons, List.length_nil]; omega
    have ne := posNe he
    cases hs : smallL (numsO a b es rs ns) with
    | false => exact ⟨fun h => (by rw [h.1] at hs; cases hs), fun _ => hcA0 k a b es rs ns _ _ _ h1 he h2 (by omega) h3 rfl c1 rfl c2 rfl c3 hs⟩
    | true =>
      by_cases hk : k = 1
      · by_cases hrn : 0 < rs.length + ns.length
        · refine ⟨fun h => ?_, fun _ => hcA2 k a b es rs ns _ _ _ h1 he h2 (by omega) h3 rfl c1 rfl c2 rfl c3 hs hk hrn⟩
          rcases h.2.2.2.2.1 with h4 | ⟨hr, hn⟩
          · omega
          · rw [hr, hn] at hrn; simp at hrn
        · have hr : rs.length = 0 := by omega
          have hn : ns.length = 0 := by omega
          by_cases ha : a = 0
          · by_cases hb : b = 0
            · exact ⟨fun _ => hcA5 k a b es rs ns _ _ _ h1 he h2 (by omega) h3 rfl c1 rfl c2 rfl c3 hs hk hr hn ha hb, fun h => absurd ⟨hs, by omega, by omega, Or.inl hk, Or.inr ⟨lenNil hr, lenNil hn⟩, Or.inr ha, Or.inr hb⟩ h⟩
            · refine ⟨fun h => ?_, fun _ => hcA4 k a b es rs ns _ _ _ h1 he h2 (by omega) h3 rfl c1 rfl c2 rfl c3 hs hk hr hn ha hb⟩
              rcases h.2.2.2.2.2.2 with h4 | h4
              · unfold TwoK at h4; omega
              · exact absurd h4 hb
          · refine ⟨fun h => ?_, fun _ => hcA3 k a b es rs ns _ _ _ h1 he h2 (by omega) h3 rfl c1 rfl c2 rfl c3 hs hk hr hn ha⟩
            rcases h.2.2.2.2.2.1 with h4 | h4
            · unfold OneK at h4; omega
            · exact absurd h4 ha
      · refine ⟨fun h => ?_, fun _ => hcA1 k a b es rs ns _ _ _ h1 he h2 (by omega) h3 rfl c1 rfl c2 rfl c3 hs hk⟩
        rcases h.2.2.2.1 with h4 | h4
        · exact absurd h4 hk
        · exact absurd h4 ne
  · have ee : es = [] := lenNil (by omega)
    subst ee
    have eN : numsO a b [] rs ns = [a, b] ++ rs ++ ns.flatMap neN := by unfold numsO; simp
    by_cases hr : 0 < rs.length
    · have c2 : ([a, b] ++ rs).length ≤ 1000 := by simp only [List.length_append, List.length_cons, List.length_nil]; omega
      have c3 : ([a, b] ++ rs ++ ns.flatMap neN).length ≤ 1000000 := by simp only [List.length_append, List.length_cons, List.length_nil]; omega
      cases hs : smallL ([a, b] ++ rs ++ ns.flatMap neN) with
      | false => exact ⟨fun h => (by have := h.1; rw [eN, hs] at this; cases this), fun _ => hcB0 k a b rs ns _ _ hr h2 (by omega) h3 rfl c2 rfl c3 hs⟩
      | true =>
        by_cases hk : k = 4
        · by_cases ha : a = 0
          · by_cases hb : b = 0
            · exact ⟨fun _ => hcB4 k a b rs ns _ _ hr h2 (by omega) h3 rfl c2 rfl c3 hs hk ha hb, fun h => absurd ⟨by rw [eN]; exact hs, by omega, by omega, Or.inr rfl, Or.inl hk, Or.inr ha, Or.inr hb⟩ h⟩
            · refine ⟨fun h => ?_, fun _ => hcB3 k a b rs ns _ _ hr h2 (by omega) h3 rfl c2 rfl c3 hs hk ha hb⟩
              rcases h.2.2.2.2.2.2 with h4 | h4
              · unfold TwoK at h4; omega
              · exact absurd h4 hb
          · refine ⟨fun h => ?_, fun _ => hcB2 k a b rs ns _ _ hr h2 (by omega) h3 rfl c2 rfl c3 hs hk ha⟩
            rcases h.2.2.2.2.2.1 with h4 | h4
            · unfold OneK at h4; omega
            · exact absurd h4 ha
        · refine ⟨fun h => ?_, fun _ => hcB1 k a b rs ns _ _ hr h2 (by omega) h3 rfl c2 rfl c3 hs hk⟩
          rcases h.2.2.2.2.1 with h4 | h4
          · exact absurd h4 hk
          · exact absurd h4.1 (posNe hr)
    · have er : rs = [] := lenNil (by omega)
      subst er
      have eN : numsO a b [] [] ns = [a, b] ++ ns.flatMap neN := by unfold numsO; simp
      by_cases hn : 0 < ns.length
      · have c3 : ([a, b] ++ ns.flatMap neN).length ≤ 1000000 := by simp only [List.length_append, List.length_cons, List.length_nil]; omega
        cases hs : smallL ([a, b] ++ ns.flatMap neN) with
        | false => exact ⟨fun h => (by have := h.1; rw [eN, hs] at this; cases this), fun _ => hcC0 k a b ns _ hn h3 rfl c3 hs⟩
        | true =>
          by_cases hk : k = 4
          · by_cases ha : a = 0
            · by_cases hb : b = 0
              · exact ⟨fun _ => hcC4 k a b ns _ hn h3 rfl c3 hs hk ha hb, fun h => absurd ⟨by rw [eN]; exact hs, by omega, by omega, Or.inr rfl, Or.inl hk, Or.inr ha, Or.inr hb⟩ h⟩
              · refine ⟨fun h => ?_, fun _ => hcC3 k a b ns _ hn h3 rfl c3 hs hk ha hb⟩
                rcases h.2.2.2.2.2.2 with h4 | h4
                · unfold TwoK at h4; omega
                · exact absurd h4 hb
            · refine ⟨fun h => ?_, fun _ => hcC2 k a b ns _ hn h3 rfl c3 hs hk ha⟩
              rcases h.2.2.2.2.2.1 with h4 | h4
              · unfold OneK at h4; omega
              · exact absurd h4 ha
          · refine ⟨fun h => ?_, fun _ => hcC1 k a b ns _ hn h3 rfl c3 hs hk⟩
            rcases h.2.2.2.2.1 with h4 | h4
            · exact absurd h4 hk
            · exact absurd h4.2 (posNe hn)
      · have en : ns = [] := lenNil (by omega)
        subst en
        have eN : numsO a b [] [] [] = [a, b] := by unfold numsO; simp
        cases hs : smallL [a, b] with
        | false => exact ⟨fun h => (by have := h.1; rw [eN, hs] at this; cases this), fun _ => hcD0 k a b hs⟩
        | true =>
          have yes : 1 ≤ k → k ≤ 8 → (OneK k ∨ a = 0) → (TwoK k ∨ b = 0) → HasO k a b [] [] [] := fun x y z w => ⟨by rw [eN]; exact hs, x, y, Or.inr rfl, Or.inr ⟨rfl, rfl⟩, z, w⟩
          by_cases k1 : k < 1
          · exact ⟨fun h => (by have := h.2.1; omega), fun _ => hcD1 k a b hs k1⟩
          by_cases k8 : 8 < k
          · exact ⟨fun h => (by have := h.2.2.1; omega), fun _ => hcD2 k a b hs k8⟩
          by_cases k2 : k = 2
          · exact ⟨fun _ => hcE2 k a b hs k2, fun h => absurd (yes (by omega) (by omega) (Or.inl (Or.inl k2)) (Or.inl (Or.inl k2))) h⟩
          by_cases k3 : k = 3
          · exact ⟨fun _ => hcE3 k a b hs k3, fun h => absurd (yes (by omega) (by omega) (Or.inl (Or.inr (Or.inl k3))) (Or.inl (Or.inr k3))) h⟩
          have nt : ¬ TwoK k := by unfold TwoK; omega
          by_cases k5 : k = 5
          · by_cases hb : b = 0
            · exact ⟨fun _ => hcE5 k a b hs k5 hb, fun h => absurd (yes (by omega) (by omega) (Or.inl (Or.inr (Or.inr (Or.inl k5)))) (Or.inr hb)) h⟩
            · exact ⟨fun h => (by rcases h.2.2.2.2.2.2 with h4 | h4; exact absurd h4 nt; exact absurd h4 hb), fun _ => hcD5 k a b hs k5 hb⟩
          by_cases k6 : k = 6
          · by_cases hb : b = 0
            · exact ⟨fun _ => hcE6 k a b hs k6 hb, fun h => absurd (yes (by omega) (by omega) (Or.inl (Or.inr (Or.inr (Or.inr k6)))) (Or.inr hb)) h⟩
            · exact ⟨fun h => (by rcases h.2.2.2.2.2.2 with h4 | h4; exact absurd h4 nt; exact absurd h4 hb), fun _ => hcD6 k a b hs k6 hb⟩
          have no : ¬ OneK k := by unfold OneK; omega
          by_cases ha : a = 0
          · by_cases hb : b = 0
            · exact ⟨fun _ => hcE0 k a b hs (by omega) (by omega) k2 k3 k5 k6 ha hb, fun h => absurd (yes (by omega) (by omega) (Or.inr ha) (Or.inr hb)) h⟩
            · exact ⟨fun h => (by rcases h.2.2.2.2.2.2 with h4 | h4; exact absurd h4 nt; exact absurd h4 hb), fun _ => hcD4 k a b hs (by omega) (by omega) k2 k3 k5 k6 ha hb⟩
          · exact ⟨fun h => (by rcases h.2.2.2.2.2.1 with h4 | h4; exact absurd h4 no; exact absurd h4 ha), fun _ => hcD3 k a b hs (by omega) (by omega) k2 k3 k5 k6 ha⟩
/- Large -/
def SmallOp (es : List Edit) (rs : List Int) (ns : List Inl) : Prop := es.length ≤ 70 ∧ rs.length ≤ 70 ∧ ns.length ≤ 70 ∧ (∀ x ∈ es, x.2.2.1.length ≤ 400) ∧ (∀ x ∈ ns, x.2.2.2.2.1.length ≤ 200)
theorem sum1_le (l : List Edit) (h : ∀ x ∈ l, x.2.2.1.length ≤ 400) : sum1 l ≤ 401 * l.length := by
  induction l with
  | nil => exact Nat.le_refl _
  | cons x l ih =>
    have a := ih (fun y hy => h y (List.mem_cons_of_mem _ hy))
    have b := h x (List.mem_cons_self ..)
    unfold sum1 at a ⊢
    rw [List.map_cons, List.sum_cons, List.length_cons]
    omega
theorem find_none1 {l : List Edit} (h : l.find? long1 = none) : ∀ x ∈ l, x.2.2.1.length ≤ 400 := fun x hx => by
  have := List.find?_eq_none.1 h x hx
  unfold long1 at this
  simpa using this
theorem find_none2 {l : List Inl} (h : l.find? long2 = none) : ∀ x ∈ l, x.2.2.2.2.1.length ≤ 200 := fun x hx => by
  have := List.find?_eq_none.1 h x hx
  unfold long2 at this
  simpa using this
/- words and Line -/
def wdO (k a b : Int) (es : List Edit) (rs : List Int) (ns : List Inl) : List Str :=
  if k = 1 then [kwEdit] ++ es.flatMap ewE
  else if k = 2 then [[102, 111, 108, 100], dg a, dg b]
  else if k = 3 then [[117, 110, 102, 111, 108, 100], dg a, dg b]
  else if k = 4 then [kwInlay] ++ rs.flatMap ewR ++ ns.flatMap ewN
  else if k = 5 then [[119, 105, 100, 116, 104], dg a]
  else if k = 6 then [[116, 97, 98], dg a]
  else if k = 7 then [[117, 110, 100, 111]]
  else if k = 8 then [[114, 101, 100, 111]]
  else []
def Ints (a b : Int) (es : List Edit) (rs : List Int) (ns : List Inl) : Prop := I64 a ∧ I64 b ∧ (∀ x ∈ es, I64 x.1 ∧ I64 x.2.1) ∧ (∀ x ∈ rs, I64 x) ∧ (∀ x ∈ ns, I64 x.1 ∧ I64 x.2.1 ∧ I64 x.2.2.1 ∧ I64 x.2.2.2.1)
theorem ecF_len (w : Str) : ∀ f i out, (ecF w f i out).length ≤ out.length + 2 * (w.length - i) := by
  intro f
  induction f with
  | zero => intro i out; rw [ecF]; omega
  | succ f ih =>
    intro i out
    rw [ecF]
    split
    · have := ih (i + 1) (out ++ escL (byteAt w i))
      have h : (escL (byteAt w i)).length ≤ 2 := by
        rcases escL_cases (byteAt w i) with ⟨_, g⟩ | ⟨_, g⟩ | ⟨_, g⟩ | ⟨_, g⟩ | ⟨_, _, _, _, g⟩ <;> rw [g] <;> simp
      rw [List.length_append] at this
      omega
    · omega
theorem tw_len (w : Str) : (tw w).length ≤ 2 * w.length + 2 := by
  unfold tw
  split
  · simp
  · have := ecF_len w (w.length + 1) 0 []
    rw [toBsLen]
    unfold ecO
    simp at this
    omega
theorem jn_len (ws : List Str) (L : Nat) (h : ∀ w ∈ ws, w.length ≤ L) : (jn ws).length ≤ ws.length * (L + 1) := by
  have key : ∀ l : List Str, (∀ w ∈ l, w.length ≤ L) → (l.flatMap (fun x => 32 :: x)).length ≤ l.length * (L + 1) := by
    intro l
    induction l with
    | nil => intro _; simp
    | cons x l ih =>
      intro h
      have a := ih (fun y hy => h y (List.mem_cons_of_mem _ hy))
      have b := h x (List.mem_cons_self ..)
      rw [List.flatMap_cons, List.length_append, List.length_cons, List.length_cons, Nat.add_mul]
      omega
  cases ws with
  | nil => simp [jn]
  | cons w ws =>
    have a := key ws (fun y hy => h y (List.mem_cons_of_mem _ hy))
    have b := h w (List.mem_cons_self ..)
    unfold jn
    rw [List.length_append, List.length_cons, Nat.add_mul]
    omega
theorem ewE_len (l : List Edit) : (l.flatMap ewE).length = 3 * l.length := by
  induction l with
  | nil => rfl
  | cons x l ih => rw [List.flatMap_cons, List.length_append, ih]; simp [ewE]; omega
theorem ewR_len (l : List Int) : (l.flatMap ewR).length = 2 * l.length := by
  induction l with
  | nil => rfl
  | cons x l ih => rw [List.flatMap_cons, List.length_append, ih]; simp [ewR]; omega
theorem ewN_len (l : List Inl) : (l.flatMap ewN).length = 6 * l.length := by
  induction l with
  | nil => rfl
  | cons x l ih => rw [List.flatMap_cons, List.length_append, ih]; simp [ewN]; omega
theorem wdO_small (k a b : Int) (es : List Edit) (rs : List Int) (ns : List Inl) (hs : SmallOp es rs ns) (hi : Ints a b es rs ns) : (wdO k a b es rs ns).length ≤ 600 ∧ ∀ w ∈ wdO k a b es rs ns, w.length ≤ 810 := by
  obtain ⟨h1, h2, h3, h4, h5⟩ := hs
  obtain ⟨ia, ib, ie, ir, iN⟩ := hi
  have la := dg_len a ia
  have lb := dg_len b ib
  have le := ewE_len es
  have lr := ewR_len rs
  have ln := ewN_len ns
  unfold wdO
  split
  · refine ⟨by simp only [List.length_append, List.length_cons, List.length_nil]; omega, fun w hw => ?_⟩
    rcases List.mem_append.1 hw with hw | hw
    · obtain rfl := List.mem_singleton.1 hw; decide
    · obtain ⟨x, hx, hw⟩ := List.mem_flatMap.1 hw
      have a1 := dg_len _ (ie x hx).1
      have a2 := dg_len _ (ie x hx).2
      have a3 := tw_len x.2.2.1
      have a4 := h4 x hx
      simp only [ewE, List.mem_cons, List.not_mem_nil, or_false] at hw
      rcases hw with rfl | rfl | rfl <;> omega
  split
  · exact ⟨by simp, fun w hw => by simp only [List.mem_cons, List.not_mem_nil, or_false] at hw; rcases hw with rfl | rfl | rfl; decide; omega; omega⟩
  split
  · exact ⟨by simp, fun w hw => by simp only [List.mem_cons, List.not_mem_nil, or_false] at hw; rcases hw with rfl | rfl | rfl; decide; omega; omega⟩
  split
  · refine ⟨by simp only [List.length_append, List.length_cons, List.length_nil]; omega, fun w hw => ?_⟩
    rcases List.mem_append.1 hw with hw | hw
    · rcases List.mem_append.1 hw with hw | hw
      · obtain rfl := List.mem_singleton.1 hw; decide
      · obtain ⟨x, hx, hw⟩ := List.mem_flatMap.1 hw
        have a1 := dg_len _ (ir x hx)
        simp only [ewR, List.mem_cons, List.not_mem_nil, or_false] at hw
        rcases hw with rfl | rfl
        · decide
        · omega
    · obtain ⟨x, hx, hw⟩ := List.mem_flatMap.1 hw
      obtain ⟨j1, j2, j3, j4⟩ := iN x hx
      have a1 := dg_len _ j1
      have a2 := dg_len _ j2
      have a3 := dg_len _ j3
      have a4 := dg_len _ j4
      have a5 := tw_len x.2.2.2.2.1
      have a6 := h5 x hx
      simp only [ewN, List.mem_cons, List.not_mem_nil, or_false] at hw
      rcases hw with rfl | rfl | rfl | rfl | rfl | rfl
      · decide
      all_goals omega
  split
  · exact ⟨by simp, fun w hw => by simp only [List.mem_cons, List.not_mem_nil, or_false] at hw; rcases hw with rfl | rfl; decide; omega⟩
  split
  · exact ⟨by simp, fun w hw => by simp only [List.mem_cons, List.not_mem_nil, or_false] at hw; rcases hw with rfl | rfl; decide; omega⟩
  split
  · exact ⟨by simp, fun w hw => by obtain rfl := List.mem_singleton.1 hw; decide⟩
  split
  · exact ⟨by simp, fun w hw => by obtain rfl := List.mem_singleton.1 hw; decide⟩
  exact ⟨by simp, fun w hw => by cases hw⟩
/-- What a form of words gives Line. -/
def LineIs (k a b : Int) (es : List Edit) (rs : List Int) (ns : List Inl) (line : Str) : Prop :=
  (rfP line = ((k, a, b, es, rs, ns), true) → Ans X0 FLine [.d (opR k a b es rs ns)] (.d (.str line))) ∧ (¬ rfP line = ((k, a, b, es, rs, ns), true) → Ans X0 FLine [.d (opR k a b es rs ns)] (.d (.str [])))
end Go.Proofs.YtgiahagbmgnmkaaDoor.Script
/- Script: plain law of Line: what Parse reads of an operation's words is the operation. -/
set_option linter.unusedVariables false
set_option linter.unusedSimpArgs false
namespace Go.Proofs.YtgiahagbmgnmkaaDoor.Script
open Go Pv G
/- a place in a text -/
theorem dropByte {w s : Str} {c : UInt8} {i : Nat} (h : w.drop i = c :: s) : i < w.length ∧ byteAt w i = c.toNat ∧ w.drop (i + 1) = s := by
  have hl : i < w.length := by
    have := congrArg List.length h
    rw [List.length_drop, List.length_cons] at this; omega
  rw [List.drop_eq_getElem_cons hl] at h
  injection h with h1 h2
  exact ⟨hl, (byteAt_eq w i c hl).2 h1, h2⟩
theorem dropNil {w : Str} {i : Nat} (h : w.drop i = []) : ¬ i < w.length := by
  have := congrArg List.length h
  rw [List.length_drop, List.length_nil] at this; omega
/- told texts -/
def esc (t : Str) : Str := t.flatMap (fun c => toBs (escL (c.toNat : Int)))
theorem ofByte (c : UInt8) : UInt8.ofNat ((c.toNat : Int)).toNat = c := by
  rw [Int.toNat_natCast]; exact UInt8.ofNat_toNat
theorem ecF_esc (w : Str) : ∀ f i out s, w.drop i = s → w.length < i + f → ecF w f i out = out ++ s.flatMap (fun c => escL (c.toNat : Int)) := by
  intro f
  induction f with
  | zero =>
    intro i out s h hf
    have : s = [] := by rw [← h]; exact List.drop_of_length_le (by omega)
    subst this
    rw [ecF]; simp
  | succ f ih =>
    intro i out s h hf
    rw [ecF]
    cases s with
    | nil => rw [if_neg (dropNil h)]; simp
    | cons c s =>
      obtain ⟨h1, h2, h3⟩ := dropByte h
      rw [if_pos h1, ih (i + 1) _ s h3 (by omega), h2, List.flatMap_cons, List.append_assoc]
theorem toBs_flat (t : Str) : toBs (t.flatMap (fun c => escL (c.toNat : Int))) = esc t := by
  induction t with
  | nil => rfl
  | cons c t ih =>
    unfold esc at ih ⊢
    rw [List.flatMap_cons, List.flatMap_cons, ← ih, ← toBs_app]
theorem tw_esc (t : Str) : tw t = if t = [] then [92, 101] else esc t := by
  unfold tw ecO
  rw [ecF_esc t (t.length + 1) 0 [] t rfl (by omega), List.nil_append, toBs_flat]
theorem escC (c : UInt8) : (c = 32 ∧ toBs (escL (c.toNat : Int)) = [92, 115]) ∨ (c = 10 ∧ toBs (escL (c.toNat : Int)) = [92, 110]) ∨ (c = 9 ∧ toBs (escL (c.toNat : Int)) = [92, 116]) ∨ (c = 92 ∧ toBs (escL (c.toNat : Int)) = [92, 92]) ∨ (c ≠ 32 ∧ c ≠ 10 ∧ c ≠ 9 ∧ c ≠ 92 ∧ toBs (escL (c.toNat : Int)) = [c]) := by
  by_cases h0 : c = 32
  · left; subst h0; exact ⟨rfl, by decide⟩
  by_cases h1 : c = 10
  · right; left; subst h1; exact ⟨rfl, by decide⟩
  by_cases h2 : c = 9
  · right; right; left; subst h2; exact ⟨rfl, by decide⟩
  by_cases h3 : c = 92
  · right; right; right; left; subst h3; exact ⟨rfl, by decide⟩
  · right; right; right; right
    have ne : ∀ d : UInt8, c ≠ d → (c.toNat : Int) ≠ (d.toNat : Int) := fun d h e => h (UInt8.toNat_inj.1 (by omega))
    refine ⟨h0, h1, h2, h3, ?_⟩
    unfold escL
    have m0 : (c.toNat : Int) ≠ 32 := ne 32 h0
    have m1 : (c.toNat : Int) ≠ 10 := ne 10 h1
    have m2 : (c.toNat : Int) ≠ 9 := ne 9 h2
    have m3 : (c.toNat : Int) ≠ 92 := ne 92 h3
    rw [if_neg m0, if_neg m1, if_neg m2, if_neg m3]
    show [UInt8.ofNat ((c.toNat : Int)).toNat] = _
    rw [ofByte]
theorem esc_cons (c : UInt8) (t : Str) : esc (c :: t) = toBs (escL (c.toNat : Int)) ++ esc t := by unfold esc; rw [List.flatMap_cons]
theorem esc_mem (t : Str) : (32 : UInt8) ∉ esc t ∧ (10 : UInt8) ∉ esc t ∧ (9 : UInt8) ∉ esc t := by
  induction t with
  | nil => exact ⟨by simp [esc], by simp [esc], by simp [esc]⟩
  | cons c t ih =>
    rw [esc_cons]
    obtain ⟨a, b, d⟩ := ih
    rcases escC c with ⟨_, g⟩ | ⟨_, g⟩ | ⟨_, g⟩ | ⟨_, g⟩ | ⟨n1, n2, n3, n4, g⟩ <;> rw [g] <;> simp only [List.mem_append, List.mem_cons, List.not_mem_nil, or_false, not_or]
    iterate 4 exact ⟨⟨by decide, a⟩, ⟨by decide, b⟩, ⟨by decide, d⟩⟩
    exact ⟨⟨fun h => n1 h.symm, a⟩, ⟨fun h => n2 h.symm, b⟩, ⟨fun h => n3 h.symm, d⟩⟩
theorem textF_esc (w : Str) : ∀ t f i out, w.drop i = esc t → w.length < i + f → textF w f i out = (out ++ t.map (fun c => (c.toNat : Int)), false) := by
  intro t
  induction t with
  | nil =>
    intro f i out h hf
    cases f with
    | zero => rw [textF]; simp
    | succ f => rw [textF, if_neg (dropNil h)]; simp
  | cons c t ih =>
    intro f i out h hf
    rw [esc_cons] at h
    have two : ∀ d : UInt8, ∀ v : Int, toBs (escL (c.toNat : Int)) = [92, d] → plainC (d.toNat : Int) = some v → v = (c.toNat : Int) → textF w f i out = (out ++ (c :: t).map (fun c => (c.toNat : Int)), false) := fun d v g hp hv => by
      rw [g] at h
      obtain ⟨a1, a2, a3⟩ := dropByte h
      obtain ⟨b1, b2, b3⟩ := dropByte a3
      obtain ⟨f, rfl⟩ : ∃ x, f = x + 1 := ⟨f - 1, by omega⟩
      rw [textF, if_pos a1, if_neg (by rw [a2]; decide), if_neg (by omega), b2, hp, if_pos (by rfl), ih f (i + 2) _ b3 (by omega)]
      simp [hv]
    rcases escC c with ⟨e, g⟩ | ⟨e, g⟩ | ⟨e, g⟩ | ⟨e, g⟩ | ⟨n1, n2, n3, n4, g⟩
    · exact two 115 32 g (by decide) (by subst e; decide)
    · exact two 110 10 g (by decide) (by subst e; decide)
    · exact two 116 9 g (by decide) (by subst e; decide)
    · exact two 92 92 g (by decide) (by subst e; decide)
    · rw [g] at h
      obtain ⟨a1, a2, a3⟩ := dropByte h
      obtain ⟨f, rfl⟩ : ∃ x, f = x + 1 := ⟨f - 1, by omega⟩
      have ne : (c.toNat : Int) ≠ 92 := fun e => n4 (UInt8.toNat_inj.1 (by rw [show (92 : UInt8).toNat = 92 from rfl]; omega))
      rw [textF, if_pos a1, if_pos (by rw [a2]; exact ne), ih f (i + 1) _ a3 (by omega), a2]
      simp
theorem hasC_mem (c : UInt8) (w : Str) : hasC c w = true ↔ c ∈ w := by
  have h0 := indexByte_none w c
  unfold hasC
  rw [decide_eq_true_iff]
  constructor
  · intro h; exact Classical.byContradiction fun hn => by have := h0.2 hn; omega
  · intro h; exact Classical.byContradiction fun hn => (h0.1 (by omega)) h
theorem hasC_no {c : UInt8} {w : Str} (h : c ∉ w) : hasC c w = false := by
  cases hb : hasC c w with
  | false => rfl
  | true => exact absurd ((hasC_mem c w).1 hb) h
theorem mapBack (t : Str) : toBs (t.map (fun c => (c.toNat : Int))) = t := by
  induction t with
  | nil => rfl
  | cons c t ih =>
    rw [List.map_cons]
    show UInt8.ofNat ((c.toNat : Int)).toNat :: toBs (t.map (fun c => (c.toNat : Int))) = _
    rw [ofByte, ih]
theorem tw_mem (t : Str) : (32 : UInt8) ∉ tw t ∧ (10 : UInt8) ∉ tw t := by
  rw [tw_esc]
  split
  · exact ⟨by decide, by decide⟩
  · exact ⟨(esc_mem t).1, (esc_mem t).2.1⟩
theorem tw_back (t : Str) : tdB (tw t) = true ∧ tdV (tw t) = t := by
  have hn : NoNl (tw t) := nonl_of (hasC_no (tw_mem t).2)
  have hB : tdB (tw t) = true := by
    rw [tdB_eq hn]
    split
    · rfl
    · rename_i h
      rw [tw_esc] at h ⊢
      by_cases h0 : t = []
      · rw [if_pos h0] at h; exact absurd rfl h
      · rw [if_neg h0]
        have h9 : hasC 9 (esc t) = false := hasC_no (esc_mem t).2.2
        have hw : txtW (esc t) = false := by unfold txtW; rw [textF_esc (esc t) t _ 0 [] rfl (by omega)]
        have he : (esc t == []) = false := by
          cases t with
          | nil => exact absurd rfl h0
          | cons c t =>
            rw [esc_cons]
            rcases escC c with ⟨_, g⟩ | ⟨_, g⟩ | ⟨_, g⟩ | ⟨_, g⟩ | ⟨_, _, _, _, g⟩ <;> rw [g] <;> rfl
        rw [h9, hw, he]; rfl
  refine ⟨hB, ?_⟩
  rw [tdV_eq hn hB, tw_esc]
  by_cases h0 : t = []
  · rw [if_pos h0, h0]; rfl
  · rw [if_neg h0]
    have ht := textF_esc (esc t) t ((esc t).length + 1) 0 [] rfl (by omega)
    rw [if_neg]
    · unfold txtOut; rw [ht, List.nil_append, mapBack]
    · intro h
      have e : esc t = [92, 101] := by simpa using h
      rw [e] at ht
      have : (textF [92, 101] 3 0 []).2 = true := by decide
      rw [show ([92, 101] : Str).length + 1 = 3 from rfl] at ht
      rw [ht] at this; cases this
/- numerals -/
def numG : Str → Int → Option Int
  | [], n => some n
  | c :: s, n => if 48 ≤ (c.toNat : Int) ∧ (c.toNat : Int) ≤ 57 then numG s (10 * n + ((c.toNat : Int) - 48)) else none
theorem numF_G (w : Str) : ∀ f i n s, w.drop i = s → f + i = w.length → numF w f i n = numG s n := by
  intro f
  induction f with
  | zero =>
    intro i n s h hf
    have : s = [] := by rw [← h]; exact List.drop_of_length_le (by omega)
    subst this; rfl
  | succ f ih =>
    intro i n s h hf
    cases s with
    | nil => exact absurd (by omega) (dropNil h)
    | cons c s =>
      obtain ⟨h1, h2, h3⟩ := dropByte h
      rw [numF, numG, h2]
      split
      · exact ih (i + 1) _ s h3 (by omega)
      · rfl
theorem numOf_G (w : Str) : numOf w = numG w 0 := numF_G w w.length 0 0 w rfl (by omega)
theorem digB (r : Nat) (h : r < 10) : ((UInt8.ofNat (48 + r)).toNat : Int) = 48 + (r : Int) := by
  rw [UInt8.toNat_ofNat', Nat.mod_eq_of_lt (by omega)]; omega
theorem numG_dec : ∀ f u s, u < 10 ^ (f + 1) → numG (decF f u s) 0 = numG s (u : Int) := by
  intro f
  induction f with
  | zero =>
    intro u s h
    have h : u < 10 := by simpa using h
    rw [decF, numG, digB u h, if_pos (by omega)]
    congr 1; omega
  | succ f ih =>
    intro u s h
    rw [decF]
    split
    · rename_i h
      rw [numG, digB u h, if_pos (by omega)]
      congr 1; omega
    · have h10 : u % 10 < 10 := Nat.mod_lt _ (by decide)
      rw [ih (u / 10) _ (by rw [Nat.pow_succ] at h; omega), numG, digB _ h10, if_pos (by omega)]
      congr 1; omega
theorem numG_mem : ∀ (s : Str) (n r : Int), numG s n = some r → ∀ c ∈ s, 48 ≤ c.toNat ∧ c.toNat ≤ 57 := by
  intro s
  induction s with
  | nil => intro n r _ c hc; cases hc
  | cons d s ih =>
    intro n r h c hc
    rw [numG] at h
    split at h
    · rename_i hd
      rcases List.mem_cons.1 hc with rfl | hc
      · omega
      · exact ih _ _ h c hc
    · cases h
theorem dec_len : ∀ k f u s, u < 10 ^ (k + 1) → k ≤ f → (decF f u s).length ≤ s.length + k + 1 ∧ s.length + 1 ≤ (decF f u s).length := by
  intro k
  induction k with
  | zero =>
    intro f u s h hf
    have h : u < 10 := by simpa using h
    cases f with
    | zero => rw [decF]; simp
    | succ f => rw [decF, if_pos h]; simp
  | succ k ih =>
    intro f u s h hf
    obtain ⟨f, rfl⟩ : ∃ x, f = x + 1 := ⟨f - 1, by omega⟩
    rw [decF]
    split
    · simp
    · have := ih f (u / 10) (UInt8.ofNat (48 + u % 10) :: s) (by rw [Nat.pow_succ] at h; omega) (by omega)
      rw [List.length_cons] at this
      omega
theorem dg_mem (n : Int) (h : I64 n) : (32 : UInt8) ∉ dg n ∧ (10 : UInt8) ∉ dg n := by
  obtain ⟨h1, h2⟩ := h
  have e2 : 10 ^ (19 + 1) = 100000000000000000000 := by decide
  have key : ∀ u : Nat, u ≤ 9223372036854775808 → (32 : UInt8) ∉ decF 19 u [] ∧ (10 : UInt8) ∉ decF 19 u [] := fun u hu => by
    have := numG_mem _ 0 _ (numG_dec 19 u [] (by omega))
    exact ⟨fun h => by have := (this 32 h).1; revert this; decide, fun h => by have := (this 10 h).1; revert this; decide⟩
  unfold dg itoaF
  split
  · obtain ⟨a, b⟩ := key n.natAbs (by omega)
    simp only [List.mem_cons, not_or]
    exact ⟨⟨by decide, a⟩, ⟨by decide, b⟩⟩
  · exact key n.toNat (by omega)
theorem dgDec (u : Nat) (hu : u ≤ 999999999999) : 1 ≤ (decF 19 u []).length ∧ (decF 19 u []).length ≤ 12 ∧ numOk (decF 19 u []) = true ∧ numR (decF 19 u []) = u ∧ cutB (decF 19 u []) = false := by
  have e1 : 10 ^ (11 + 1) = 1000000000000 := by decide
  have e2 : 10 ^ (19 + 1) = 100000000000000000000 := by decide
  obtain ⟨l1, l2⟩ := dec_len 11 19 u [] (by omega) (by omega)
  have hg := numG_dec 19 u [] (by omega)
  have hg : numG (decF 19 u []) 0 = some (u : Int) := hg
  have hm := numG_mem _ _ _ hg
  generalize decF 19 u [] = w at *
  simp only [List.length_nil] at l1 l2
  have hw : numOf w = some (u : Int) := by rw [numOf_G]; exact hg
  refine ⟨l2, by omega, by unfold numOk; rw [hw]; rfl, by unfold numR; rw [hw]; rfl, ?_⟩
  cases w with
  | nil => simp at l2
  | cons c w =>
    have := (hm c (List.mem_cons_self ..)).1
    unfold cutB
    rw [List.take_succ_cons, List.take_zero]
    cases hb : ([c] == ([45] : Str)) with
    | false => rfl
    | true =>
      have e : [c] = ([45] : Str) := by simpa using hb
      injection e with e _
      subst e; revert this; decide
theorem dg_back (n : Int) (h : Sml n) : numOkW (dg n) = true ∧ numVW (dg n) = n := by
  obtain ⟨h1, h2⟩ := h
  have key : numOkW (dg n) = true ∧ (if cutB (dg n) then -(numR (cutV (dg n))) else numR (cutV (dg n))) = n := by
    unfold dg itoaF
    by_cases h0 : n < 0
    · rw [if_pos h0]
      obtain ⟨a, b, c, d, e⟩ := dgDec n.natAbs (by omega)
      have hc : cutB ((45 : UInt8) :: decF 19 n.natAbs []) = true := rfl
      have hv : cutV ((45 : UInt8) :: decF 19 n.natAbs []) = decF 19 n.natAbs [] := by unfold cutV; rw [if_pos hc]; rfl
      unfold numOkW
      rw [hv, hc, decide_eq_true a, decide_eq_true b, c, d]
      exact ⟨rfl, by rw [if_pos rfl]; omega⟩
    · rw [if_neg h0]
      obtain ⟨a, b, c, d, e⟩ := dgDec n.toNat (by omega)
      have hv : cutV (decF 19 n.toNat []) = decF 19 n.toNat [] := by unfold cutV; rw [e]; rfl
      unfold numOkW
      rw [hv, e, decide_eq_true a, decide_eq_true b, c, d]
      exact ⟨rfl, by rw [if_neg (by simp)]; omega⟩
  exact ⟨key.1, by unfold numVW; rw [if_pos key.1]; exact key.2⟩
theorem numVW_sml (w : Str) : Sml (numVW w) := by
  unfold numVW
  split
  · rename_i h
    have hl : (cutV w).length ≤ 12 := by
      unfold numOkW at h
      simp only [Bool.and_eq_true, decide_eq_true_iff] at h
      exact h.1.2
    have := numR_lt (cutV w) hl
    unfold Sml
    split <;> omega
  · unfold Sml; omega
theorem numsF_sml (l : List Str) : ∀ f i out, (∀ x ∈ out, Sml x) → ∀ x ∈ numsF l f i out, Sml x := by
  intro f
  induction f with
  | zero => intro i out h x hx; rw [numsF] at hx; exact h x hx
  | succ f ih =>
    intro i out h x hx
    rw [numsF] at hx
    split at hx
    · split at hx
      · refine ih (i + 1) _ (fun y hy => ?_) x hx
        rcases List.mem_append.1 hy with hy | hy
        · exact h y hy
        · obtain rfl := List.mem_singleton.1 hy; exact numVW_sml _
      · cases hx
    · exact h x hx
theorem intAt_sml (l : List Str) (k : Nat) : Sml (intAt (numsL l) k) := by
  unfold intAt
  rw [List.getD_eq_getElem?_getD]
  cases h : (numsL l)[k]? with
  | none => exact ⟨by decide, by decide⟩
  | some x => exact numsF_sml l _ 0 [] (fun y hy => by cases hy) x (List.mem_of_getElem? h)
/- words of a line -/
theorem pieces_one (d : UInt8) : ∀ w : Str, d ∉ w → pieces d w = [w]
  | [], _ => rfl
  | c :: w, h => by
    have hc : ¬ c = d := fun e => h (by rw [e]; exact List.mem_cons_self ..)
    rw [pieces, if_neg hc, pieces_one d w (fun hh => h (List.mem_cons_of_mem _ hh))]
    rfl
theorem pieces_app (d : UInt8) (s : Str) : ∀ w : Str, d ∉ w → pieces d (w ++ d :: s) = w :: pieces d s
  | [], _ => by rw [List.nil_append, pieces, if_pos rfl]
  | c :: w, h => by
    have hc : ¬ c = d := fun e => h (by rw [e]; exact List.mem_cons_self ..)
    rw [List.cons_append, pieces, if_neg hc, pieces_app d s w (fun hh => h (List.mem_cons_of_mem _ hh))]
    rfl
theorem pieces_jn : ∀ (w : Str) (ws : List Str), (∀ x ∈ w :: ws, (32 : UInt8) ∉ x) → pieces 32 (jn (w :: ws)) = w :: ws := by
  intro w ws
  induction ws generalizing w with
  | nil =>
    intro h
    show pieces 32 (w ++ [].flatMap (fun x => 32 :: x)) = _
    rw [List.flatMap_nil, List.append_nil]
    exact pieces_one 32 w (h w (List.mem_cons_self ..))
  | cons x ws ih =>
    intro h
    have := ih x (fun y hy => h y (List.mem_cons_of_mem _ hy))
    have this : pieces 32 (x ++ ws.flatMap (fun x => 32 :: x)) = x :: ws := this
    show pieces 32 (w ++ (x :: ws).flatMap (fun x => 32 :: x)) = _
    rw [List.flatMap_cons, List.cons_append, pieces_app 32 _ w (h w (List.mem_cons_self ..)), this]
theorem jn_nonl (ws : List Str) (h : ∀ x ∈ ws, (10 : UInt8) ∉ x) : hasC 10 (jn ws) = false := by
  apply hasC_no
  cases ws with
  | nil => intro h; cases h
  | cons w ws =>
    unfold jn
    rw [List.mem_append, List.mem_flatMap]
    rintro (h1 | ⟨x, hx, h1⟩)
    · exact h w (List.mem_cons_self ..) h1
    · rcases List.mem_cons.1 h1 with h1 | h1
      · revert h1; decide
      · exact h x (List.mem_cons_of_mem _ hx) h1
/- read back -/
theorem numsOk (l : List Int) (h : ∀ x ∈ l, Sml x) : numsL (l.map dg) = l := by
  have := numsL_ok (l := l.map dg) (fun j hj => by
    have hj2 : j < l.length := by simpa using hj
    unfold strAt
    rw [List.getD_eq_getElem?_getD, List.getElem?_eq_getElem hj]
    simp only [List.getElem_map, Option.getD_some]
    exact (dg_back _ (h _ (List.getElem_mem hj2))).1)
  rw [this, List.map_map]
  conv => rhs; rw [← List.map_id l]
  exact List.map_congr_left (fun x hx => (dg_back x (h x hx)).2)
def EdS (es : List Edit) : Prop := ∀ x ∈ es, Sml x.1 ∧ Sml x.2.1
def InS (ns : List Inl) : Prop := ∀ x ∈ ns, Sml x.1 ∧ Sml x.2.1 ∧ Sml x.2.2.1 ∧ Sml x.2.2.2.1
theorem rfEd_back : ∀ (es : List Edit) f acc, EdS es → 3 * es.length < f → rfEd f (es.flatMap ewE) acc = (acc ++ es, true) := by
  intro es
  induction es with
  | nil =>
    intro f acc _ hf
    obtain ⟨f, rfl⟩ : ∃ x, f = x + 1 := ⟨f - 1, by omega⟩
    rw [List.flatMap_nil, rfEd, if_neg (by simp), List.append_nil]
  | cons x es ih =>
    intro f acc h hf
    obtain ⟨f, rfl⟩ : ∃ x, f = x + 1 := ⟨f - 1, by omega⟩
    obtain ⟨a, b, t, ⟨⟩⟩ := x
    obtain ⟨ha, hb⟩ := h _ (List.mem_cons_self ..)
    have hl : (List.flatMap ewE ((a, b, t, ()) :: es)) = dg a :: dg b :: tw t :: es.flatMap ewE := by rw [List.flatMap_cons]; rfl
    rw [hl, rfEd]
    have e2 : (dg a :: dg b :: tw t :: es.flatMap ewE).take 2 = [a, b].map dg := rfl
    have e3 : strAt (dg a :: dg b :: tw t :: es.flatMap ewE) 2 = tw t := rfl
    have e4 : (dg a :: dg b :: tw t :: es.flatMap ewE).drop 3 = es.flatMap ewE := rfl
    obtain ⟨t1, t2⟩ := tw_back t
    have en : numsL ([a, b].map dg) = [a, b] := numsOk [a, b] (fun x hx => by
      simp only [List.mem_cons, List.not_mem_nil, or_false] at hx
      rcases hx with rfl | rfl
      · exact ha
      · exact hb)
    rw [e2, e3, e4, en, t1, t2, if_pos (by simp), if_neg (by simp), if_neg (by simp)]
    rw [ih f _ (fun y hy => h y (List.mem_cons_of_mem _ hy)) (by rw [List.length_cons] at hf; omega)]
    rw [List.append_assoc]; rfl
theorem rfRm_back (tl : List Str) (ht : tl = [] ∨ strAt tl 0 ≠ [45]) : ∀ (rs : List Int) f acc, (∀ x ∈ rs, Sml x) → 2 * rs.length < f → rfRm f (rs.flatMap ewR ++ tl) acc = (tl, acc ++ rs, true) := by
  intro rs
  induction rs with
  | nil =>
    intro f acc _ hf
    obtain ⟨f, rfl⟩ : ∃ x, f = x + 1 := ⟨f - 1, by omega⟩
    rw [List.flatMap_nil, List.nil_append, rfRm, List.append_nil]
    split
    · rw [if_neg]
      rcases ht with ht | ht
      · rename_i h; rw [ht] at h; simp at h
      · exact ht
    · rfl
  | cons x rs ih =>
    intro f acc h hf
    obtain ⟨f, rfl⟩ : ∃ x, f = x + 1 := ⟨f - 1, by omega⟩
    have hx := h x (List.mem_cons_self ..)
    have hl : List.flatMap ewR (x :: rs) ++ tl = [45] :: dg x :: (rs.flatMap ewR ++ tl) := by rw [List.flatMap_cons]; rfl
    rw [hl, rfRm]
    have e2 : mid ([45] :: dg x :: (rs.flatMap ewR ++ tl)) 1 2 = [x].map dg := rfl
    have e3 : strAt ([45] :: dg x :: (rs.flatMap ewR ++ tl)) 0 = [45] := rfl
    have e4 : ([45] :: dg x :: (rs.flatMap ewR ++ tl)).drop 2 = rs.flatMap ewR ++ tl := rfl
    have en : numsL ([x].map dg) = [x] := numsOk [x] (fun y hy => by obtain rfl := List.mem_singleton.1 hy; exact hx)
    rw [e2, e3, e4, en, if_pos (by simp), if_pos rfl, if_neg (by simp), if_neg (by simp)]
    rw [ih f _ (fun y hy => h y (List.mem_cons_of_mem _ hy)) (by rw [List.length_cons] at hf; omega)]
    rw [List.append_assoc]; rfl
theorem rfAd_back : ∀ (ns : List Inl) f acc, InS ns → 6 * ns.length < f → rfAd f (ns.flatMap ewN) acc = (acc ++ ns, true) := by
  intro ns
  induction ns with
  | nil =>
    intro f acc _ hf
    obtain ⟨f, rfl⟩ : ∃ x, f = x + 1 := ⟨f - 1, by omega⟩
    rw [List.flatMap_nil, rfAd, if_neg (by simp), List.append_nil]
  | cons x ns ih =>
    intro f acc h hf
    obtain ⟨f, rfl⟩ : ∃ x, f = x + 1 := ⟨f - 1, by omega⟩
    obtain ⟨a, b, c, d, t, ⟨⟩⟩ := x
    obtain ⟨ha, hb, hc, hd⟩ := h _ (List.mem_cons_self ..)
    have hl : (List.flatMap ewN ((a, b, c, d, t, ()) :: ns)) = [43] :: dg a :: dg b :: dg c :: dg d :: tw t :: ns.flatMap ewN := by rw [List.flatMap_cons]; rfl
    rw [hl, rfAd]
    have e1 : strAt ([43] :: dg a :: dg b :: dg c :: dg d :: tw t :: ns.flatMap ewN) 0 = [43] := rfl
    have e2 : mid ([43] :: dg a :: dg b :: dg c :: dg d :: tw t :: ns.flatMap ewN) 1 5 = [a, b, c, d].map dg := rfl
    have e3 : strAt ([43] :: dg a :: dg b :: dg c :: dg d :: tw t :: ns.flatMap ewN) 5 = tw t := rfl
    have e4 : ([43] :: dg a :: dg b :: dg c :: dg d :: tw t :: ns.flatMap ewN).drop 6 = ns.flatMap ewN := rfl
    obtain ⟨t1, t2⟩ := tw_back t
    have en : numsL ([a, b, c, d].map dg) = [a, b, c, d] := numsOk [a, b, c, d] (fun x hx => by
      simp only [List.mem_cons, List.not_mem_nil, or_false] at hx
      rcases hx with rfl | rfl | rfl | rfl
      · exact ha
      · exact hb
      · exact hc
      · exact hd)
    rw [e1, e2, e3, e4, en, t1, t2, if_pos (by simp), if_neg (by simp), if_pos rfl, if_neg (by simp)]
    rw [ih f _ (fun y hy => h y (List.mem_cons_of_mem _ hy)) (by rw [List.length_cons] at hf; omega)]
    rw [List.append_assoc]; rfl
/- what is read has numbers of 12 digits at most -/
theorem rfEd_sml : ∀ f l acc, EdS acc → EdS (rfEd f l acc).1 := by
  intro f
  induction f with
  | zero => intro l acc h; exact h
  | succ f ih =>
    intro l acc h
    rw [rfEd]
    split
    · split
      · exact h
      · split
        · exact h
        · refine ih _ _ (fun x hx => ?_)
          rcases List.mem_append.1 hx with hx | hx
          · exact h x hx
          · obtain rfl := List.mem_singleton.1 hx
            exact ⟨intAt_sml _ 0, intAt_sml _ 1⟩
    · exact h
theorem rfRm_sml : ∀ f l acc, (∀ x ∈ acc, Sml x) → ∀ x ∈ (rfRm f l acc).2.1, Sml x := by
  intro f
  induction f with
  | zero => intro l acc h; exact h
  | succ f ih =>
    intro l acc h
    rw [rfRm]
    split
    · split
      · split
        · exact h
        · split
          · exact h
          · refine ih _ _ (fun x hx => ?_)
            rcases List.mem_append.1 hx with hx | hx
            · exact h x hx
            · obtain rfl := List.mem_singleton.1 hx
              exact intAt_sml _ 0
      · exact h
    · exact h
theorem rfAd_sml : ∀ f l acc, InS acc → InS (rfAd f l acc).1 := by
  intro f
  induction f with
  | zero => intro l acc h; exact h
  | succ f ih =>
    intro l acc h
    rw [rfAd]
    split
    · split
      · exact h
      · split
        · split
          · exact h
          · refine ih _ _ (fun x hx => ?_)
            rcases List.mem_append.1 hx with hx | hx
            · exact h x hx
            · obtain rfl := List.mem_singleton.1 hx
              exact ⟨intAt_sml _ 0, intAt_sml _ 1, intAt_sml _ 2, intAt_sml _ 3⟩
        · exact h
    · exact h
theorem smlAll (a b : Int) (es : List Edit) (rs : List Int) (ns : List Inl) : smallL (numsO a b es rs ns) = true ↔ (Sml a ∧ Sml b) ∧ EdS es ∧ (∀ x ∈ rs, Sml x) ∧ InS ns := by
  unfold smallL numsO EdS InS
  simp only [List.all_append, Bool.and_eq_true, List.all_cons, List.all_nil, Bool.and_true, smallB_iff, List.all_eq_true, List.mem_flatMap, neE, neN]
  constructor
  · rintro ⟨⟨⟨⟨h1, h2⟩, h3⟩, h4⟩, h5⟩
    refine ⟨⟨h1, h2⟩, fun x hx => ⟨h3 _ ⟨x, hx, by simp⟩, h3 _ ⟨x, hx, by simp⟩⟩, h4, fun x hx => ⟨h5 _ ⟨x, hx, by simp⟩, h5 _ ⟨x, hx, by simp⟩, h5 _ ⟨x, hx, by simp⟩, h5 _ ⟨x, hx, by simp⟩⟩⟩
  · rintro ⟨⟨h1, h2⟩, h3, h4, h5⟩
    refine ⟨⟨⟨⟨h1, h2⟩, ?_⟩, h4⟩, ?_⟩
    · rintro y ⟨x, hx, hy⟩
      simp only [List.mem_cons, List.not_mem_nil, or_false] at hy
      rcases hy with rfl | rfl
      · exact (h3 x hx).1
      · exact (h3 x hx).2
    · rintro y ⟨x, hx, hy⟩
      simp only [List.mem_cons, List.not_mem_nil, or_false] at hy
      obtain ⟨i1, i2, i3, i4⟩ := h5 x hx
      rcases hy with rfl | rfl | rfl | rfl
      · exact i1
      · exact i2
      · exact i3
      · exact i4
theorem sml0 : Sml 0 := ⟨by decide, by decide⟩
def HasT (o : Opn) : Prop := HasO o.1 o.2.1 o.2.2.1 o.2.2.2.1 o.2.2.2.2.1 o.2.2.2.2.2
theorem rfSized_has {k : Int} {c : Nat} {l : List Str} (hk : 1 ≤ k ∧ k ≤ 8) (h1 : 0 < c → OneK k) (h2 : 1 < c → TwoK k) (h : (rfSized k c l).2 = true) : HasT (rfSized k c l).1 := by
  unfold rfSized at h ⊢
  split at h
  · rename_i hc
    rw [if_pos hc]
    refine ⟨(smlAll _ _ _ _ _).2 ⟨⟨?_, ?_⟩, fun x hx => (by cases hx), fun x hx => (by cases hx), fun x hx => (by cases hx)⟩, hk.1, hk.2, Or.inr rfl, Or.inr ⟨rfl, rfl⟩, ?_, ?_⟩
    · show Sml (if 0 < c then _ else _)
      split
      · exact intAt_sml _ _
      · exact sml0
    · show Sml (if 1 < c then _ else _)
      split
      · exact intAt_sml _ _
      · exact sml0
    · show OneK k ∨ (if 0 < c then _ else _) = (0 : Int)
      by_cases hc : 0 < c
      · exact Or.inl (h1 hc)
      · right; rw [if_neg hc]
    · show TwoK k ∨ (if 1 < c then _ else _) = (0 : Int)
      by_cases hc : 1 < c
      · exact Or.inl (h2 hc)
      · right; rw [if_neg hc]
  · cases h
theorem rfP_has (line : Str) (h : (rfP line).2 = true) : HasT (rfP line).1 := by
  unfold rfP at h ⊢
  split at h
  · cases h
  rename_i h0
  rw [if_neg h0]
  split at h
  · rename_i q
    rw [if_pos q]
    exact ⟨(smlAll _ _ _ _ _).2 ⟨⟨sml0, sml0⟩, rfEd_sml _ _ [] (fun x hx => by cases hx), fun x hx => (by cases hx), fun x hx => (by cases hx)⟩, (by decide : (1 : Int) ≤ 1), (by decide : (1 : Int) ≤ 8), Or.inl rfl, Or.inr ⟨rfl, rfl⟩, Or.inr rfl, Or.inr rfl⟩
  rename_i q; rw [if_neg q]; clear q
  split at h
  · rename_i q
    rw [if_pos q]
    exact rfSized_has ⟨by decide, by decide⟩ (fun _ => Or.inl rfl) (fun _ => Or.inl rfl) h
  rename_i q; rw [if_neg q]; clear q
  split at h
  · rename_i q
    rw [if_pos q]
    exact rfSized_has ⟨by decide, by decide⟩ (fun _ => Or.inr (Or.inl rfl)) (fun _ => Or.inr rfl) h
  rename_i q; rw [if_neg q]; clear q
  split at h
  · rename_i q
    rw [if_pos q]
    unfold rfInlays at h ⊢
    split at h
    · rename_i q2
      rw [if_pos q2]
      exact ⟨(smlAll _ _ _ _ _).2 ⟨⟨sml0, sml0⟩, fun x hx => (by cases hx), rfRm_sml _ _ [] (fun x hx => by cases hx), rfAd_sml _ _ [] (fun x hx => by cases hx)⟩, (by decide : (1 : Int) ≤ 4), (by decide : (4 : Int) ≤ 8), Or.inr rfl, Or.inl rfl, Or.inr rfl, Or.inr rfl⟩
    · cases h
  rename_i q; rw [if_neg q]; clear q
  split at h
  · rename_i q
    rw [if_pos q]
    exact rfSized_has ⟨by decide, by decide⟩ (fun _ => Or.inr (Or.inr (Or.inl rfl))) (fun h => absurd h (by decide)) h
  rename_i q; rw [if_neg q]; clear q
  split at h
  · rename_i q
    rw [if_pos q]
    exact rfSized_has ⟨by decide, by decide⟩ (fun _ => Or.inr (Or.inr (Or.inr rfl))) (fun h => absurd h (by decide)) h
  rename_i q; rw [if_neg q]; clear q
  split at h
  · rename_i q
    rw [if_pos q]
    exact rfSized_has ⟨by decide, by decide⟩ (fun h => absurd h (by decide)) (fun h => absurd h (by decide)) h
  rename_i q; rw [if_neg q]; clear q
  split at h
  · rename_i q
    rw [if_pos q]
    exact rfSized_has ⟨by decide, by decide⟩ (fun h => absurd h (by decide)) (fun h => absurd h (by decide)) h
  cases h
theorem sml64 {n : Int} (h : Sml n) : I64 n := ⟨by have := h.1; omega, by have := h.2; omega⟩
/-- No word of an operation has a blank or a line's end. -/
theorem wdO_mem (k a b : Int) (es : List Edit) (rs : List Int) (ns : List Inl) (hi : Ints a b es rs ns) : ∀ w ∈ wdO k a b es rs ns, (32 : UInt8) ∉ w ∧ (10 : UInt8) ∉ w := by
  obtain ⟨ia, ib, ie, ir, iN⟩ := hi
  have ha := dg_mem a ia
  have hb := dg_mem b ib
  unfold wdO
  split
  · intro w hw
    rcases List.mem_append.1 hw with hw | hw
    · obtain rfl := List.mem_singleton.1 hw; exact ⟨by decide, by decide⟩
    · obtain ⟨x, hx, hw⟩ := List.mem_flatMap.1 hw
      simp only [ewE, List.mem_cons, List.not_mem_nil, or_false] at hw
      rcases hw with rfl | rfl | rfl
      · exact dg_mem _ (ie x hx).1
      · exact dg_mem _ (ie x hx).2
      · exact tw_mem _
  split
  · intro w hw
    simp only [List.mem_cons, List.not_mem_nil, or_false] at hw
    rcases hw with rfl | rfl | rfl
    · exact ⟨by decide, by decide⟩
    · exact ha
    · exact hb
  split
  · intro w hw
    simp only [List.mem_cons, List.not_mem_nil, or_false] at hw
    rcases hw with rfl | rfl | rfl
    · exact ⟨by decide, by decide⟩
    · exact ha
    · exact hb
  split
  · intro w hw
    rcases List.mem_append.1 hw with hw | hw
    · rcases List.mem_append.1 hw with hw | hw
      · obtain rfl := List.mem_singleton.1 hw; exact ⟨by decide, by decide⟩
      · obtain ⟨x, hx, hw⟩ := List.mem_flatMap.1 hw
        simp only [ewR, List.mem_cons, List.not_mem_nil, or_false] at hw
        rcases hw with rfl | rfl
        · exact ⟨by decide, by decide⟩
        · exact dg_mem _ (ir x hx)
    · obtain ⟨x, hx, hw⟩ := List.mem_flatMap.1 hw
      obtain ⟨j1, j2, j3, j4⟩ := iN x hx
      simp only [ewN, List.mem_cons, List.not_mem_nil, or_false] at hw
      rcases hw with rfl | rfl | rfl | rfl | rfl | rfl
      · exact ⟨by decide, by decide⟩
      · exact dg_mem _ j1
      · exact dg_mem _ j2
      · exact dg_mem _ j3
      · exact dg_mem _ j4
      · exact tw_mem _
  split
  · intro w hw
    simp only [List.mem_cons, List.not_mem_nil, or_false] at hw
    rcases hw with rfl | rfl
    · exact ⟨by decide, by decide⟩
    · exact ha
  split
  · intro w hw
    simp only [List.mem_cons, List.not_mem_nil, or_false] at hw
    rcases hw with rfl | rfl
    · exact ⟨by decide, by decide⟩
    · exact ha
  split
  · intro w hw; obtain rfl := List.mem_singleton.1 hw; exact ⟨by decide, by decide⟩
  split
  · intro w hw; obtain rfl := List.mem_singleton.1 hw; exact ⟨by decide, by decide⟩
  intro w hw; cases hw
theorem hasO_ints {k a b : Int} {es : List Edit} {rs : List Int} {ns : List Inl} (h : HasO k a b es rs ns) : Ints a b es rs ns := by
  obtain ⟨⟨ha, hb⟩, he, hr, hn⟩ := (smlAll _ _ _ _ _).1 h.1
  exact ⟨sml64 ha, sml64 hb, fun x hx => ⟨sml64 (he x hx).1, sml64 (he x hx).2⟩, fun x hx => sml64 (hr x hx), fun x hx => ⟨sml64 (hn x hx).1, sml64 (hn x hx).2.1, sml64 (hn x hx).2.2.1, sml64 (hn x hx).2.2.2⟩⟩
theorem rfSized1 (k a : Int) (ha : Sml a) : rfSized k 1 ([a].map dg) = ((k, a, 0, [], [], []), true) := by
  unfold rfSized
  rw [numsOk [a] (fun y hy => by obtain rfl := List.mem_singleton.1 hy; exact ha)]
  rfl
theorem rfSized2 (k a b : Int) (ha : Sml a) (hb : Sml b) : rfSized k 2 ([a, b].map dg) = ((k, a, b, [], [], []), true) := by
  unfold rfSized
  rw [numsOk [a, b] (fun x hx => by
      simp only [List.mem_cons, List.not_mem_nil, or_false] at hx
      rcases hx with rfl | rfl
      · exact ha
      · exact hb)]
  rfl
/-- What is told as a line is read as it was. -/
theorem rfP_back (k a b : Int) (es : List Edit) (rs : List Int) (ns : List Inl) (h : HasO k a b es rs ns) : rfP (jn (wdO k a b es rs ns)) = ((k, a, b, es, rs, ns), true) := by
  have hm := wdO_mem k a b es rs ns (hasO_ints h)
  have hn := jn_nonl _ (fun w hw => (hm w hw).2)
  obtain ⟨hs, k1, k8, he, hrn, hA, hB⟩ := h
  obtain ⟨⟨sa, sb⟩, se, sr, sn⟩ := (smlAll _ _ _ _ _).1 hs
  have hp : ∀ w ws, wdO k a b es rs ns = w :: ws → pieces 32 (jn (wdO k a b es rs ns)) = w :: ws := fun w ws e => by
    rw [e] at hm ⊢
    exact pieces_jn w ws (fun x hx => (hm x hx).1)
  have s0 : ∀ (w : Str) (ws : List Str), strAt (w :: ws) 0 = w := fun _ _ => rfl
  unfold rfP
  rw [hn, if_neg (by simp)]
  by_cases e1 : k = 1
  · subst e1
    have hr : rs = [] ∧ ns = [] := hrn.resolve_left (by decide)
    have h0 : a = 0 := hA.resolve_left (by unfold OneK; omega)
    have h1 : b = 0 := hB.resolve_left (by unfold TwoK; omega)
    obtain ⟨rfl, rfl⟩ := hr
    subst h0 h1
    rw [hp kwEdit (es.flatMap ewE) (by unfold wdO; rw [if_pos rfl]; rfl), if_pos (by rfl)]
    show rfEdits (es.flatMap ewE) = _
    unfold rfEdits
    rw [rfEd_back es _ [] se (by rw [ewE_len]; omega)]
    rfl
  have ee : es = [] := he.resolve_left e1
  subst ee
  by_cases e4 : k = 4
  · subst e4
    have h0 : a = 0 := hA.resolve_left (by unfold OneK; omega)
    have h1 : b = 0 := hB.resolve_left (by unfold TwoK; omega)
    subst h0 h1
    rw [hp kwInlay (rs.flatMap ewR ++ ns.flatMap ewN) (by unfold wdO; rw [if_neg (by decide), if_neg (by decide), if_neg (by decide), if_pos rfl, List.append_assoc]; rfl), s0, if_neg (by decide), if_neg (by decide), if_neg (by decide), if_pos (by rfl)]
    show rfInlays (rs.flatMap ewR ++ ns.flatMap ewN) = _
    have hR : rfRs (rs.flatMap ewR ++ ns.flatMap ewN) = (ns.flatMap ewN, rs, true) := by
      unfold rfRs
      rw [rfRm_back (ns.flatMap ewN) _ rs _ [] sr (by rw [List.length_append, ewR_len]; omega), List.nil_append]
      cases ns with
      | nil => exact Or.inl rfl
      | cons x ns => right; rw [List.flatMap_cons]; intro h; revert h; show ([43] : Str) = [45] → False; decide
    unfold rfInlays
    rw [hR, if_pos rfl]
    unfold rfAs
    rw [rfAd_back ns _ [] sn (by rw [ewN_len]; omega), List.nil_append]
  obtain ⟨rfl, rfl⟩ := hrn.resolve_left e4
  by_cases e2 : k = 2
  · subst e2
    rw [hp [102, 111, 108, 100] ([a, b].map dg) (by unfold wdO; rw [if_neg (by decide), if_pos rfl]; rfl), s0, if_neg (by decide), if_pos (by rfl)]
    exact rfSized2 2 a b sa sb
  by_cases e3 : k = 3
  · subst e3
    rw [hp [117, 110, 102, 111, 108, 100] ([a, b].map dg) (by unfold wdO; rw [if_neg (by decide), if_neg (by decide), if_pos rfl]; rfl), s0, if_neg (by decide), if_neg (by decide), if_pos (by rfl)]
    exact rfSized2 3 a b sa sb
  have h1 : b = 0 := hB.resolve_left (by unfold TwoK; omega)
  subst h1
  by_cases e5 : k = 5
  · subst e5
    rw [hp [119, 105, 100, 116, 104] ([a].map dg) (by unfold wdO; rw [if_neg (by decide), if_neg (by decide), if_neg (by decide), if_neg (by decide), if_pos rfl]; rfl), s0, if_neg (by decide), if_neg (by decide), if_neg (by decide), if_neg (by decide), if_pos (by rfl)]
    exact rfSized1 5 a sa
  by_cases e6 : k = 6
  · subst e6
    rw [hp [116, 97, 98] ([a].map dg) (by unfold wdO; rw [if_neg (by decide), if_neg (by decide), if_neg (by decide), if_neg (by decide), if_neg (by decide), if_pos rfl]; rfl), s0, if_neg (by decide), if_neg (by decide), if_neg (by decide), if_neg (by decide), if_neg (by decide), if_pos (by rfl)]
    exact rfSized1 6 a sa
  have h0 : a = 0 := hA.resolve_left (by unfold OneK; omega)
  subst h0
  by_cases e7 : k = 7
  · subst e7
    rw [hp [117, 110, 100, 111] [] (by unfold wdO; rw [if_neg (by decide), if_neg (by decide), if_neg (by decide), if_neg (by decide), if_neg (by decide), if_neg (by decide), if_pos rfl])]
    rfl
  have e8 : k = 8 := by omega
  subst e8
  rw [hp [114, 101, 100, 111] [] (by unfold wdO; rw [if_neg (by decide), if_neg (by decide), if_neg (by decide), if_neg (by decide), if_neg (by decide), if_neg (by decide), if_neg (by decide), if_pos rfl])]
  rfl
/-- What has no line is not what is read of it. -/
theorem rfP_not (k a b : Int) (es : List Edit) (rs : List Int) (ns : List Inl) (line : Str) (h : ¬ HasO k a b es rs ns) : ¬ rfP line = ((k, a, b, es, rs, ns), true) := fun e => by
  have := rfP_has line (by rw [e])
  rw [e] at this
  exact h this
end Go.Proofs.YtgiahagbmgnmkaaDoor.Script
/- Script: closed runs. -/
set_option maxRecDepth 100000
set_option linter.unusedVariables false
namespace Go.Proofs.YtgiahagbmgnmkaaDoor.Script
open Go Pv G
set_option maxHeartbeats 4000000 in
theorem edits : edits_T := by
  exact pV 12 [] nilE (by kernel_rfl) rfl rfl
end Go.Proofs.YtgiahagbmgnmkaaDoor.Script
/- Script: Line as one; the reference's Line: loops; statements of it and of the law ScriptLines. -/
set_option linter.unusedVariables false
set_option linter.unusedSimpArgs false
namespace Go.Proofs.YtgiahagbmgnmkaaDoor.Script
open Go Pv G
theorem jn_small (k a b : Int) (es : List Edit) (rs : List Int) (ns : List Inl) (hs : SmallOp es rs ns) (hi : Ints a b es rs ns) : (jn (wdO k a b es rs ns)).length ≤ 500000 := by
  obtain ⟨h1, h2⟩ := wdO_small k a b es rs ns hs hi
  have h3 := jn_len (wdO k a b es rs ns) 810 h2
  have h4 : (wdO k a b es rs ns).length * 811 ≤ 600 * 811 := Nat.mul_le_mul_right _ h1
  omega
theorem slD_strs (l : List Str) : strT.slD l = strsD l := by
  have : l.flatMap strT.enc = l.map D.str := by
    induction l with
    | nil => rfl
    | cons x l ih => rw [List.flatMap_cons, ih]; rfl
  show D.sl (l.flatMap strT.enc) l.length = _
  rw [this]
theorem lineD (k a b : Int) (es : List Edit) (rs : List Int) (ns : List Inl) (hs : SmallOp es rs ns) (ws : List Str) (h1 : ws.length ≤ 1000000) (h2 : (jn ws).length ≤ 1000000)
    (hW : Ans X0 FWs [.d (opR k a b es rs ns)] (.d (strsD ws))) : LineIs k a b es rs ns (jn ws) := by
  obtain ⟨l1, l2, l3, _, _⟩ := hs
  have hS := smSelf k a b es rs ns (by omega) (by omega) (by omega)
  refine ⟨fun e => lnD3 k a b es rs ns _ ws h1 h2 rfl h2 hW e hS, fun ne => ?_⟩
  obtain ⟨⟨⟨k2, a2, b2, fs, qs, ms⟩, ok⟩, e⟩ : ∃ x, rfP (jn ws) = x := ⟨_, rfl⟩
  cases ok with
  | false => exact lnD1 k a b es rs ns _ _ ws h1 h2 rfl h2 hW e
  | true =>
    have hn : ¬ ((k2, a2, b2, fs, qs, ms) : Opn) = (k, a, b, es, rs, ns) := fun h => ne (by rw [e, h])
    exact lnD2 k a b es rs ns _ k2 a2 b2 fs qs ms ws h1 h2 rfl h2 hW e (smDiff k2 a2 b2 fs qs ms k a b es rs ns (by omega) (by omega) (by omega) hn)
theorem lineF (k a b : Int) (es : List Edit) (rs : List Int) (ns : List Inl) (hs : SmallOp es rs ns) (w : Str) (h2 : w.length ≤ 1000000)
    (hW : Ans X0 FWs [.d (opR k a b es rs ns)] (.full [.str w] 1)) : LineIs k a b es rs ns (jn [w]) := by
  obtain ⟨l1, l2, l3, _, _⟩ := hs
  have hS := smSelf k a b es rs ns (by omega) (by omega) (by omega)
  have ej : jn [w] = w := by show w ++ [] = w; rw [List.append_nil]
  rw [ej]
  refine ⟨fun e => lnF3 k a b es rs ns w h2 hW e hS, fun ne => ?_⟩
  obtain ⟨⟨⟨k2, a2, b2, fs, qs, ms⟩, ok⟩, e⟩ : ∃ x, rfP w = x := ⟨_, rfl⟩
  cases ok with
  | false => exact lnF1 k a b es rs ns w _ h2 hW e
  | true =>
    have hn : ¬ ((k2, a2, b2, fs, qs, ms) : Opn) = (k, a, b, es, rs, ns) := fun h => ne (by rw [e, h])
    exact lnF2 k a b es rs ns w k2 a2 b2 fs qs ms h2 hW e (smDiff k2 a2 b2 fs qs ms k a b es rs ns (by omega) (by omega) (by omega) hn)
theorem lineT (k a b : Int) (es : List Edit) (rs : List Int) (ns : List Inl) (hW : Ans X0 FWs [.d (opR k a b es rs ns)] (strT.tailV 9 [])) : LineIs k a b es rs ns (jn []) := by
  have e : rfP [] = (op0, false) := rfl
  exact ⟨fun h => (by rw [show jn [] = ([] : Str) from rfl, e] at h; cases h), fun _ => lnT1 k a b es rs ns op0 hW e⟩
/-- What Line answers of any operation that is gone through. -/
theorem lineAns (k a b : Int) (es : List Edit) (rs : List Int) (ns : List Inl) (hs : SmallOp es rs ns) (hi : Ints a b es rs ns) : LineIs k a b es rs ns (jn (wdO k a b es rs ns)) := by
  have hj := jn_small k a b es rs ns hs hi
  have hw := (wdO_small k a b es rs ns hs hi).1
  have key : Ans X0 FWs [.d (opR k a b es rs ns)] (.d (strsD (wdO k a b es rs ns))) → LineIs k a b es rs ns (jn (wdO k a b es rs ns)) := fun h => lineD k a b es rs ns hs _ (by omega) (by omega) h
  have key2 : ∀ out : List Str, out = wdO k a b es rs ns → Ans X0 FWs [.d (opR k a b es rs ns)] (.d (strT.slD out)) → LineIs k a b es rs ns (jn (wdO k a b es rs ns)) := fun out e h => key (by rw [← slD_strs, ← e]; exact h)
  have hs' := hs
  obtain ⟨l1, l2, l3, l4, l5⟩ := hs
  obtain ⟨ia, ib, ie, ir, iN⟩ := hi
  have hE : EdsOk es := ⟨l1, fun x hx => ⟨(ie x hx).1, (ie x hx).2, by have := l4 x hx; omega⟩⟩
  have hR : IsOk rs := ⟨l2, ir⟩
  have hN : InsOk ns := ⟨l3, fun x hx => ⟨(iN x hx).1, (iN x hx).2.1, (iN x hx).2.2.1, (iN x hx).2.2.2, by have := l5 x hx; omega⟩⟩
  by_cases k1 : k = 1
  · subst k1
    cases es with
    | nil => exact lineF 1 a b [] rs ns hs' kwEdit (by decide) (wdEd0 a b rs ns)
    | cons x es => exact key2 _ rfl (wdEd a b (x :: es) rs ns _ hE (by simp) rfl)
  by_cases k2 : k = 2
  · subst k2; exact key (wdFold a b es rs ns _ _ ia ib rfl rfl)
  by_cases k3 : k = 3
  · subst k3; exact key (wdUnf a b es rs ns _ _ ia ib rfl rfl)
  by_cases k4 : k = 4
  · subst k4
    cases rs with
    | nil =>
      cases ns with
      | nil => exact lineF 4 a b es [] [] hs' kwInlay (by decide) (wdIn3 a b es)
      | cons x ns => exact key2 _ rfl (wdIn2 a b es (x :: ns) _ hN (by simp) rfl)
    | cons r rs =>
      have hlen := ewR_len (r :: rs)
      exact key2 _ rfl (wdIn1 a b es (r :: rs) ns _ _ hR (by simp) rfl (by rw [List.length_append, hlen]; simp only [List.length_cons, List.length_nil] at l2 ⊢; omega) hN rfl)
  by_cases k5 : k = 5
  · subst k5; exact key (wdWid a b es rs ns _ ia rfl)
  by_cases k6 : k = 6
  · subst k6; exact key (wdTab a b es rs ns _ ia rfl)
  by_cases k7 : k = 7
  · subst k7; exact lineF 7 a b es rs ns hs' [117, 110, 100, 111] (by decide) (wdUndo a b es rs ns)
  by_cases k8 : k = 8
  · subst k8; exact lineF 8 a b es rs ns hs' [114, 101, 100, 111] (by decide) (wdRedo a b es rs ns)
  have e0 : wdO k a b es rs ns = [] := by unfold wdO; rw [if_neg k1, if_neg k2, if_neg k3, if_neg k4, if_neg k5, if_neg k6, if_neg k7, if_neg k8]
  rw [e0]
  by_cases hk : k < 1
  · exact lineT k a b es rs ns (wdNo1 k a b es rs ns hk)
  · exact lineT k a b es rs ns (wdNo2 k a b es rs ns (by omega))
theorem lineY (k a b : Int) (es : List Edit) (rs : List Int) (ns : List Inl) (hs : SmallOp es rs ns) (h : HasO k a b es rs ns) : Ans X0 FLine [.d (opR k a b es rs ns)] (.d (.str (jn (wdO k a b es rs ns)))) :=
  (lineAns k a b es rs ns hs (hasO_ints h)).1 (rfP_back k a b es rs ns h)
theorem lineN (k a b : Int) (es : List Edit) (rs : List Int) (ns : List Inl) (hs : SmallOp es rs ns) (hi : Ints a b es rs ns) (h : ¬ HasO k a b es rs ns) : Ans X0 FLine [.d (opR k a b es rs ns)] (.d (.str [])) :=
  (lineAns k a b es rs ns hs hi).2 (rfP_not k a b es rs ns _ h)
/- the reference's Line: loops -/
def spW (w : Str) : Str := 32 :: w
def tl1 (es : List Edit) : Str := (es.flatMap ewE).flatMap spW
def tl2 (rs : List Int) : Str := (rs.flatMap ewR).flatMap spW
def tl3 (ns : List Inl) : Str := (ns.flatMap ewN).flatMap spW
def EdT (es : List Edit) : Prop := es.length ≤ 70 ∧ ∀ x ∈ es, Sml x.1 ∧ Sml x.2.1 ∧ x.2.2.1.length ≤ 400
def RmT (rs : List Int) : Prop := rs.length ≤ 70 ∧ ∀ x ∈ rs, Sml x
def InT (ns : List Inl) : Prop := ns.length ≤ 70 ∧ ∀ x ∈ ns, Sml x.1 ∧ Sml x.2.1 ∧ Sml x.2.2.1 ∧ Sml x.2.2.2.1 ∧ x.2.2.2.2.1.length ≤ 200
theorem tlDrop1 (es : List Edit) {i : Nat} (h : i < es.length) : tl1 (es.drop i) = (32 :: dg es[i].1) ++ ((32 :: dg es[i].2.1) ++ ((32 :: tw es[i].2.2.1) ++ tl1 (es.drop (i + 1)))) := by
  unfold tl1
  rw [List.drop_eq_getElem_cons h, List.flatMap_cons, List.flatMap_append]
  simp [ewE, spW]
theorem tlDrop2 (rs : List Int) {i : Nat} (h : i < rs.length) : tl2 (rs.drop i) = [32, 45] ++ ((32 :: dg rs[i]) ++ tl2 (rs.drop (i + 1))) := by
  unfold tl2
  rw [List.drop_eq_getElem_cons h, List.flatMap_cons, List.flatMap_append]
  simp [ewR, spW]
theorem tlDrop3 (ns : List Inl) {i : Nat} (h : i < ns.length) : tl3 (ns.drop i) = [32, 43] ++ ((32 :: dg ns[i].1) ++ ((32 :: dg ns[i].2.1) ++ ((32 :: dg ns[i].2.2.1) ++ ((32 :: dg ns[i].2.2.2.1) ++ ((32 :: tw ns[i].2.2.2.2.1) ++ tl3 (ns.drop (i + 1))))))) := by
  unfold tl3
  rw [List.drop_eq_getElem_cons h, List.flatMap_cons, List.flatMap_append]
  simp [ewN, spW]
theorem lenOf {s t u : Str} (e : s ++ t = u) : u.length = s.length + t.length := by rw [← e, List.length_append]
theorem rlC1 (a b : Int) (es : List Edit) (rs : List Int) (ns : List Inl) (h : EdT es) : ∀ f i s m, i + f = es.length → s.length ≤ 10 + 1000 * i → f < m →
    LpC X0 0 (ntOf X0 FLi) (lpKeep X0 FLi 0) (lpBody X0 FLi 0) 1 m (stY1 a b es rs ns s i) (.exit 1, stY1x a b es rs ns (s ++ tl1 (es.drop i)) es.length) := by
  obtain ⟨hl, hx⟩ := h
  intro f
  induction f with
  | zero =>
    intro i s m hi hs hm
    obtain rfl : i = es.length := by omega
    obtain ⟨m, rfl⟩ : ∃ x, m = x + 1 := ⟨m - 1, by omega⟩
    rw [List.drop_of_length_le (Nat.le_refl _), show tl1 [] = [] from rfl, List.append_nil]
    exact LpC.last (y12 a b es rs ns s es.length (by omega) (by omega)) (by simp)
  | succ f ih =>
    intro i s m hi hs hm
    obtain ⟨m, rfl⟩ : ∃ x, m = x + 1 := ⟨m - 1, by omega⟩
    have hlt : i < es.length := by omega
    obtain ⟨g1, g2, g3⟩ := hx _ (List.getElem_mem hlt)
    have e1 := dg_len _ (sml64 g1)
    have e2 := dg_len _ (sml64 g2)
    have e3 := tw_len es[i].2.2.1
    have q1 : s ++ [32] = s ++ [32] := rfl
    have L : (s ++ [32] ++ dg es[i].1 ++ [32] ++ dg es[i].2.1 ++ [32] ++ tw es[i].2.2.1).length = s.length + 1 + (dg es[i].1).length + 1 + (dg es[i].2.1).length + 1 + (tw es[i].2.2.1).length := by simp only [List.length_append, List.length_cons, List.length_nil]
    have nxt := ih (i + 1) (s ++ [32] ++ dg es[i].1 ++ [32] ++ dg es[i].2.1 ++ [32] ++ tw es[i].2.2.1) m (by omega) (by rw [L]; omega) (by omega)
    rw [tlDrop1 es hlt]
    have e4 : s ++ [32] ++ dg es[i].1 ++ [32] ++ dg es[i].2.1 ++ [32] ++ tw es[i].2.2.1 ++ tl1 (es.drop (i + 1)) = s ++ ((32 :: dg es[i].1) ++ ((32 :: dg es[i].2.1) ++ ((32 :: tw es[i].2.2.1) ++ tl1 (es.drop (i + 1))))) := by simp
    rw [e4] at nxt
    have w1 := lenOf (s := s) (t := [32]) rfl
    have w2 := lenOf (s := s ++ [32]) (t := dg es[i].1) rfl
    have w3 := lenOf (s := s ++ [32] ++ dg es[i].1) (t := [32]) rfl
    have w4 := lenOf (s := s ++ [32] ++ dg es[i].1 ++ [32]) (t := dg es[i].2.1) rfl
    have w5 := lenOf (s := s ++ [32] ++ dg es[i].1 ++ [32] ++ dg es[i].2.1) (t := [32]) rfl
    have w6 := lenOf (s := s ++ [32] ++ dg es[i].1 ++ [32] ++ dg es[i].2.1 ++ [32]) (t := tw es[i].2.2.1) rfl
    have w0 : ([32] : Str).length = 1 := rfl
    exact LpC.next (y11 a b es rs ns s i es[i].1 es[i].2.1 es[i].2.2.1 _ _ _ (nthE hlt) g1 g2 (by omega) rfl rfl rfl (by omega) (by omega) (by omega) _ _ _ _ _ _ rfl (by omega) rfl (by omega) rfl (by omega) rfl (by omega) rfl (by omega) rfl (by omega) (by omega) (by omega) hlt) nxt
theorem rlC2 (a b : Int) (es : List Edit) (rs : List Int) (ns : List Inl) (h : RmT rs) : ∀ f i s m, i + f = rs.length → s.length ≤ 10 + 1000 * i → f < m →
    LpC X0 0 (ntOf X0 FLi) (lpKeep X0 FLi 1) (lpBody X0 FLi 1) 1 m (stY2 a b es rs ns s i) (.exit 3, stY2x a b es rs ns (s ++ tl2 (rs.drop i)) rs.length) := by
  obtain ⟨hl, hx⟩ := h
  intro f
  induction f with
  | zero =>
    intro i s m hi hs hm
    obtain rfl : i = rs.length := by omega
    obtain ⟨m, rfl⟩ : ∃ x, m = x + 1 := ⟨m - 1, by omega⟩
    rw [List.drop_of_length_le (Nat.le_refl _), show tl2 [] = [] from rfl, List.append_nil]
    exact LpC.last (y22 a b es rs ns s rs.length (by omega) (by omega)) (by simp)
  | succ f ih =>
    intro i s m hi hs hm
    obtain ⟨m, rfl⟩ : ∃ x, m = x + 1 := ⟨m - 1, by omega⟩
    have hlt : i < rs.length := by omega
    have g1 := hx _ (List.getElem_mem hlt)
    have e1 := dg_len _ (sml64 g1)
    have w0 : ([32, 45, 32] : Str).length = 3 := rfl
    have w1 := lenOf (s := s) (t := [32, 45, 32]) rfl
    have w2 := lenOf (s := s ++ [32, 45, 32]) (t := dg rs[i]) rfl
    have nxt := ih (i + 1) (s ++ [32, 45, 32] ++ dg rs[i]) m (by omega) (by omega) (by omega)
    rw [tlDrop2 rs hlt]
    have e4 : s ++ [32, 45, 32] ++ dg rs[i] ++ tl2 (rs.drop (i + 1)) = s ++ ([32, 45] ++ ((32 :: dg rs[i]) ++ tl2 (rs.drop (i + 1)))) := by simp
    rw [e4] at nxt
    exact LpC.next (y21 a b es rs ns s i rs[i] _ (nthI hlt) g1 rfl (by omega) _ _ rfl (by omega) rfl (by omega) (by omega) (by omega) hlt) nxt
theorem rlC3 (a b : Int) (es : List Edit) (rs : List Int) (ns : List Inl) (h : InT ns) : ∀ f i s m, i + f = ns.length → s.length ≤ 100000 + 1000 * i → f < m →
    LpC X0 0 (ntOf X0 FLi) (lpKeep X0 FLi 2) (lpBody X0 FLi 2) 1 m (stY3 a b es rs ns s i) (.exit 5, stY3x a b es rs ns (s ++ tl3 (ns.drop i)) ns.length) := by
  obtain ⟨hl, hx⟩ := h
  intro f
  induction f with
  | zero =>
    intro i s m hi hs hm
    obtain rfl : i = ns.length := by omega
    obtain ⟨m, rfl⟩ : ∃ x, m = x + 1 := ⟨m - 1, by omega⟩
    rw [List.drop_of_length_le (Nat.le_refl _), show tl3 [] = [] from rfl, List.append_nil]
    exact LpC.last (y32 a b es rs ns s ns.length (by omega) (by omega)) (by simp)
  | succ f ih =>
    intro i s m hi hs hm
    obtain ⟨m, rfl⟩ : ∃ x, m = x + 1 := ⟨m - 1, by omega⟩
    have hlt : i < ns.length := by omega
    obtain ⟨g1, g2, g3, g4, g5⟩ := hx _ (List.getElem_mem hlt)
    have e1 := dg_len _ (sml64 g1)
    have e2 := dg_len _ (sml64 g2)
    have e3 := dg_len _ (sml64 g3)
    have e4 := dg_len _ (sml64 g4)
    have e5 := tw_len ns[i].2.2.2.2.1
    have w0 : ([32] : Str).length = 1 := rfl
    have w00 : ([32, 43, 32] : Str).length = 3 := rfl
    have w1 := lenOf (s := s) (t := [32, 43, 32]) rfl
    have w2 := lenOf (s := s ++ [32, 43, 32]) (t := dg ns[i].1) rfl
    have w3 := lenOf (s := s ++ [32, 43, 32] ++ dg ns[i].1) (t := [32]) rfl
    have w4 := lenOf (s := s ++ [32, 43, 32] ++ dg ns[i].1 ++ [32]) (t := dg ns[i].2.1) rfl
    have w5 := lenOf (s := s ++ [32, 43, 32] ++ dg ns[i].1 ++ [32] ++ dg ns[i].2.1) (t := [32]) rfl
    have w6 := lenOf (s := s ++ [32, 43, 32] ++ dg ns[i].1 ++ [32] ++ dg ns[i].2.1 ++ [32]) (t := dg ns[i].2.2.1) rfl
    have w7 := lenOf (s := s ++ [32, 43, 32] ++ dg ns[i].1 ++ [32] ++ dg ns[i].2.1 ++ [32] ++ dg ns[i].2.2.1) (t := [32]) rfl
    have w8 := lenOf (s := s ++ [32, 43, 32] ++ dg ns[i].1 ++ [32] ++ dg ns[i].2.1 ++ [32] ++ dg ns[i].2.2.1 ++ [32]) (t := dg ns[i].2.2.2.1) rfl
    have w9 := lenOf (s := s ++ [32, 43, 32] ++ dg ns[i].1 ++ [32] ++ dg ns[i].2.1 ++ [32] ++ dg ns[i].2.2.1 ++ [32] ++ dg ns[i].2.2.2.1) (t := [32]) rfl
    have wA := lenOf (s := s ++ [32, 43, 32] ++ dg ns[i].1 ++ [32] ++ dg ns[i].2.1 ++ [32] ++ dg ns[i].2.2.1 ++ [32] ++ dg ns[i].2.2.2.1 ++ [32]) (t := tw ns[i].2.2.2.2.1) rfl
    have nxt := ih (i + 1) (s ++ [32, 43, 32] ++ dg ns[i].1 ++ [32] ++ dg ns[i].2.1 ++ [32] ++ dg ns[i].2.2.1 ++ [32] ++ dg ns[i].2.2.2.1 ++ [32] ++ tw ns[i].2.2.2.2.1) m (by omega) (by omega) (by omega)
    rw [tlDrop3 ns hlt]
    have e6 : s ++ [32, 43, 32] ++ dg ns[i].1 ++ [32] ++ dg ns[i].2.1 ++ [32] ++ dg ns[i].2.2.1 ++ [32] ++ dg ns[i].2.2.2.1 ++ [32] ++ tw ns[i].2.2.2.2.1 ++ tl3 (ns.drop (i + 1)) = s ++ ([32, 43] ++ ((32 :: dg ns[i].1) ++ ((32 :: dg ns[i].2.1) ++ ((32 :: dg ns[i].2.2.1) ++ ((32 :: dg ns[i].2.2.2.1) ++ ((32 :: tw ns[i].2.2.2.2.1) ++ tl3 (ns.drop (i + 1)))))))) := by simp
    rw [e6] at nxt
    exact LpC.next (y31 a b es rs ns s i ns[i].1 ns[i].2.1 ns[i].2.2.1 ns[i].2.2.2.1 ns[i].2.2.2.2.1 _ _ _ _ _ (nthN hlt) g1 g2 g3 g4 (by omega) rfl rfl rfl rfl rfl (by omega) (by omega) (by omega) (by omega) (by omega) _ _ _ _ _ _ _ _ _ _ rfl (by omega) rfl (by omega) rfl (by omega) rfl (by omega) rfl (by omega) rfl (by omega) rfl (by omega) rfl (by omega) rfl (by omega) rfl (by omega) (by omega) (by omega) hlt) nxt
def rlL1_T : Prop := ∀ (a b : Int) (es : List Edit) (rs : List Int) (ns : List Inl) (s : Str) (h : EdT es) (e : kwEdit ++ tl1 es = s), Lp X0 0 (ntOf X0 FLi) (lpKeep X0 FLi 0) (lpBody X0 FLi 0) 1 FUEL (stY1 a b es rs ns kwEdit 0) (.exit 1, stY1x a b es rs ns s es.length)
theorem rlL1 : rlL1_T := fun a b es rs ns s h e => by
  subst e
  have hl := h.1
  have := rlC1 a b es rs ns h es.length 0 kwEdit 1152921504606846975 (by omega) (by decide) (by omega)
  rw [List.drop_zero] at this
  exact LpC.start (m := 1152921504606846975) this (by kernel_rfl)
def rlL2_T : Prop := ∀ (a b : Int) (es : List Edit) (rs : List Int) (ns : List Inl) (s : Str) (h : RmT rs) (e : kwInlay ++ tl2 rs = s), Lp X0 0 (ntOf X0 FLi) (lpKeep X0 FLi 1) (lpBody X0 FLi 1) 1 FUEL (stY2 a b es rs ns kwInlay 0) (.exit 3, stY2x a b es rs ns s rs.length)
theorem rlL2 : rlL2_T := fun a b es rs ns s h e => by
  subst e
  have hl := h.1
  have := rlC2 a b es rs ns h rs.length 0 kwInlay 1152921504606846975 (by omega) (by decide) (by omega)
  rw [List.drop_zero] at this
  exact LpC.start (m := 1152921504606846975) this (by kernel_rfl)
def rlL3_T : Prop := ∀ (a b : Int) (es : List Edit) (rs : List Int) (ns : List Inl) (o s : Str) (h : InT ns) (ho : o.length ≤ 100000) (e : o ++ tl3 ns = s), Lp X0 0 (ntOf X0 FLi) (lpKeep X0 FLi 2) (lpBody X0 FLi 2) 1 FUEL (stY3 a b es rs ns o 0) (.exit 5, stY3x a b es rs ns s ns.length)
theorem rlL3 : rlL3_T := fun a b es rs ns o s h ho e => by
  subst e
  have hl := h.1
  have := rlC3 a b es rs ns h ns.length 0 o 1152921504606846975 (by omega) (by omega) (by omega)
  rw [List.drop_zero] at this
  exact LpC.start (m := 1152921504606846975) this (by kernel_rfl)
def rl1_T : Prop := ∀ (a b : Int) (es : List Edit) (rs : List Int) (ns : List Inl) (s : Str) (h : EdT es) (e : kwEdit ++ tl1 es = s), Ans X0 FLi [.d (opR 1 a b es rs ns)] (.d (.str s))
def rl4_T : Prop := ∀ (a b : Int) (es : List Edit) (rs : List Int) (ns : List Inl) (o s : Str) (h : RmT rs) (e : kwInlay ++ tl2 rs = o) (ho : o.length ≤ 100000) (h2 : InT ns) (e2 : o ++ tl3 ns = s), Ans X0 FLi [.d (opR 4 a b es rs ns)] (.d (.str s))
def rl2_T : Prop := ∀ (a b : Int) (es : List Edit) (rs : List Int) (ns : List Inl) (d1 d2 s1 s2 s3 : Str) (ha : Sml a) (hb : Sml b) (e1 : dg a = d1) (e2 : dg b = d2) (g1 : d1.length ≤ 100) (g2 : d2.length ≤ 100) (q1 : [102, 111, 108, 100, 32] ++ d1 = s1) (l1 : s1.length ≤ 1000) (q2 : s1 ++ [32] = s2) (l2 : s2.length ≤ 1000) (q3 : s2 ++ d2 = s3), Ans X0 FLi [.d (opR 2 a b es rs ns)] (.d (.str s3))
def rl3_T : Prop := ∀ (a b : Int) (es : List Edit) (rs : List Int) (ns : List Inl) (d1 d2 s1 s2 s3 : Str) (ha : Sml a) (hb : Sml b) (e1 : dg a = d1) (e2 : dg b = d2) (g1 : d1.length ≤ 100) (g2 : d2.length ≤ 100) (q1 : [117, 110, 102, 111, 108, 100, 32] ++ d1 = s1) (l1 : s1.length ≤ 1000) (q2 : s1 ++ [32] = s2) (l2 : s2.length ≤ 1000) (q3 : s2 ++ d2 = s3), Ans X0 FLi [.d (opR 3 a b es rs ns)] (.d (.str s3))
def rl5_T : Prop := ∀ (a b : Int) (es : List Edit) (rs : List Int) (ns : List Inl) (d1 s1 : Str) (ha : Sml a) (e1 : dg a = d1) (g1 : d1.length ≤ 100) (q1 : [119, 105, 100, 116, 104, 32] ++ d1 = s1), Ans X0 FLi [.d (opR 5 a b es rs ns)] (.d (.str s1))
def rl6_T : Prop := ∀ (a b : Int) (es : List Edit) (rs : List Int) (ns : List Inl) (d1 s1 : Str) (ha : Sml a) (e1 : dg a = d1) (g1 : d1.length ≤ 100) (q1 : [116, 97, 98, 32] ++ d1 = s1), Ans X0 FLi [.d (opR 6 a b es rs ns)] (.d (.str s1))
def rl7_T : Prop := ∀ (a b : Int) (es : List Edit) (rs : List Int) (ns : List Inl), Ans X0 FLi [.d (opR 7 a b es rs ns)] (.d (.str [117, 110, 100, 111]))
def rl8_T : Prop := ∀ (a b : Int) (es : List Edit) (rs : List Int) (ns : List Inl), Ans X0 FLi [.d (opR 8 a b es rs ns)] (.d (.str [114, 101, 100, 111]))
/- the law ScriptLines -/
end Go.Proofs.YtgiahagbmgnmkaaDoor.Script
/- Script: paths, printed by a program of mine. -/
set_option maxRecDepth 100000
set_option linter.unusedSimpArgs false
set_option linter.unusedVariables false
namespace Go.Proofs.YtgiahagbmgnmkaaDoor.Script
open Go Pv G
set_option maxHeartbeats 4000000 in
theorem rl1 : rl1_T := by
  intro a b es rs ns s h e
  exact pV 12 [(5, .l (Ex.exit (1 : Nat)) (stY1x a b es rs ns s (List.length es)))] (cE (@rlL1 (a) (b) (es) (rs) (ns) (s) h e) nilE) (by kernel_rfl) rfl rfl
set_option maxHeartbeats 4000000 in
theorem rl4 : rl4_T := by
  intro a b es rs ns o s h e ho h2 e2
  exact pV 12 [(17, .l (Ex.exit (3 : Nat)) (stY2x a b es rs ns o (List.length rs))), (20, .l (Ex.exit (5 : Nat)) (stY3x a b es rs ns s (List.length ns)))] (cE (@rlL3 (a) (b) (es) (rs) (ns) (o) (s) h2 ho e2) (cE (@rlL2 (a) (b) (es) (rs) (ns) (o) h e) nilE)) (by kernel_rfl) rfl rfl
set_option maxHeartbeats 4000000 in
theorem rl2 : rl2_T := by
  intro a b es rs ns d1 d2 s1 s2 s3 ha hb e1 e2 g1 g2 q1 l1 q2 l2 q3
  exact pV 12 [(6, .v (V.d (D.str d1))), (7, .v (V.d (D.str s1))), (8, .v (V.d (D.str s2))), (10, .v (V.d (D.str d2))), (11, .v (V.d (D.str s3)))] (cP (@addC (s2) (d2) (s3) (by omega) (by omega) q3) (cC (@dgS (b) (d2) hb e2) (cP (@addC (s1) ([(32 : UInt8)]) (s2) (by omega) (by simp [*]) q2) (cP (@addC ([(102 : UInt8), (111 : UInt8), (108 : UInt8), (100 : UInt8), (32 : UInt8)]) (d1) (s1) (by simp [*]) (by omega) q1) (cC (@dgS (a) (d1) ha e1) nilE))))) (by kernel_rfl) rfl rfl
set_option maxHeartbeats 4000000 in
theorem rl3 : rl3_T := by
  intro a b es rs ns d1 d2 s1 s2 s3 ha hb e1 e2 g1 g2 q1 l1 q2 l2 q3
  exact pV 12 [(8, .v (V.d (D.str d1))), (9, .v (V.d (D.str s1))), (10, .v (V.d (D.str s2))), (12, .v (V.d (D.str d2))), (13, .v (V.d (D.str s3)))] (cP (@addC (s2) (d2) (s3) (by omega) (by omega) q3) (cC (@dgS (b) (d2) hb e2) (cP (@addC (s1) ([(32 : UInt8)]) (s2) (by omega) (by simp [*]) q2) (cP (@addC ([(117 : UInt8), (110 : UInt8), (102 : UInt8), (111 : UInt8), (108 : UInt8), (100 : UInt8), (32 : UInt8)]) (d1) (s1) (by simp [*]) (by omega) q1) (cC (@dgS (a) (d1) ha e1) nilE))))) (by kernel_rfl) rfl rfl
set_option maxHeartbeats 4000000 in
theorem rl5 : rl5_T := by
  intro a b es rs ns d1 s1 ha e1 g1 q1
  exact pV 12 [(10, .v (V.d (D.str d1))), (11, .v (V.d (D.str s1)))] (cP (@addC ([(119 : UInt8), (105 : UInt8), (100 : UInt8), (116 : UInt8), (104 : UInt8), (32 : UInt8)]) (d1) (s1) (by simp [*]) (by omega) q1) (cC (@dgS (a) (d1) ha e1) nilE)) (by kernel_rfl) rfl rfl
set_option maxHeartbeats 4000000 in
theorem rl6 : rl6_T := by
  intro a b es rs ns d1 s1 ha e1 g1 q1
  exact pV 12 [(12, .v (V.d (D.str d1))), (13, .v (V.d (D.str s1)))] (cP (@addC ([(116 : UInt8), (97 : UInt8), (98 : UInt8), (32 : UInt8)]) (d1) (s1) (by simp [*]) (by omega) q1) (cC (@dgS (a) (d1) ha e1) nilE)) (by kernel_rfl) rfl rfl
set_option maxHeartbeats 4000000 in
theorem rl7 : rl7_T := by
  intro a b es rs ns
  exact pV 12 [] nilE (by kernel_rfl) rfl rfl
set_option maxHeartbeats 4000000 in
theorem rl8 : rl8_T := by
  intro a b es rs ns
  exact pV 12 [] nilE (by kernel_rfl) rfl rfl
end Go.Proofs.YtgiahagbmgnmkaaDoor.Script
/- Script: the reference's Line as one; the law ScriptLines on plain operations. -/
set_option linter.unusedVariables false
set_option linter.unusedSimpArgs false
namespace Go.Proofs.YtgiahagbmgnmkaaDoor.Script
open Go Pv G
theorem jn_cons (w : Str) (ws : List Str) : jn (w :: ws) = w ++ ws.flatMap spW := rfl
theorem tl2_len (rs : List Int) (h : ∀ x ∈ rs, Sml x) : (tl2 rs).length ≤ 30 * rs.length := by
  induction rs with
  | nil => exact Nat.le_refl _
  | cons x rs ih =>
    have a := ih (fun y hy => h y (List.mem_cons_of_mem _ hy))
    have b := dg_len _ (sml64 (h x (List.mem_cons_self ..)))
    have e := tlDrop2 (x :: rs) (i := 0) (by simp)
    rw [List.drop_zero] at e
    rw [e]
    simp only [List.length_append, List.length_cons, List.length_nil, List.drop_succ_cons, List.drop_zero, List.getElem_cons_zero]
    omega
/-- What the reference's Line answers of an operation that has a line. -/
theorem refLine (k a b : Int) (es : List Edit) (rs : List Int) (ns : List Inl) (hs : SmallOp es rs ns) (h : HasO k a b es rs ns) : Ans X0 FLi [.d (opR k a b es rs ns)] (.d (.str (jn (wdO k a b es rs ns)))) := by
  obtain ⟨hsm, k1, k8, he, hrn, hA, hB⟩ := h
  obtain ⟨⟨sa, sb⟩, se, sr, sn⟩ := (smlAll _ _ _ _ _).1 hsm
  obtain ⟨l1, l2, l3, l4, l5⟩ := hs
  have la := dg_len a (sml64 sa)
  have lb := dg_len b (sml64 sb)
  have hE : EdT es := ⟨l1, fun x hx => ⟨(se x hx).1, (se x hx).2, l4 x hx⟩⟩
  have hR : RmT rs := ⟨l2, sr⟩
  have hN : InT ns := ⟨l3, fun x hx => ⟨(sn x hx).1, (sn x hx).2.1, (sn x hx).2.2.1, (sn x hx).2.2.2, l5 x hx⟩⟩
  have goTo : ∀ (s : Str), s = jn (wdO k a b es rs ns) → Ans X0 FLi [.d (opR k a b es rs ns)] (.d (.str s)) → Ans X0 FLi [.d (opR k a b es rs ns)] (.d (.str (jn (wdO k a b es rs ns)))) := fun s e h => by rw [← e]; exact h
  by_cases e1 : k = 1
  · subst e1
    exact goTo _ (by unfold wdO; rw [if_pos rfl]; rfl) (rl1 a b es rs ns _ hE rfl)
  by_cases e4 : k = 4
  · subst e4
    refine goTo _ ?_ (rl4 a b es rs ns _ _ hR rfl (by have := tl2_len rs sr; rw [List.length_append]; simp only [List.length_cons, List.length_nil]; omega) hN rfl)
    unfold wdO
    rw [if_neg (by decide), if_neg (by decide), if_neg (by decide), if_pos rfl, List.append_assoc]
    show _ = jn (kwInlay :: (rs.flatMap ewR ++ ns.flatMap ewN))
    rw [jn_cons, List.flatMap_append]
    rfl
  by_cases e2 : k = 2
  · subst e2
    refine goTo _ ?_ (rl2 a b es rs ns _ _ _ _ _ sa sb rfl rfl (by omega) (by omega) rfl (by rw [List.length_append]; simp only [List.length_cons, List.length_nil]; omega) rfl (by rw [List.length_append, List.length_append]; simp only [List.length_cons, List.length_nil]; omega) rfl)
    unfold wdO
    rw [if_neg (by decide), if_pos rfl, jn_cons]
    simp [spW]
  by_cases e3 : k = 3
  · subst e3
    refine goTo _ ?_ (rl3 a b es rs ns _ _ _ _ _ sa sb rfl rfl (by omega) (by omega) rfl (by rw [List.length_append]; simp only [List.length_cons, List.length_nil]; omega) rfl (by rw [List.length_append, List.length_append]; simp only [List.length_cons, List.length_nil]; omega) rfl)
    unfold wdO
    rw [if_neg (by decide), if_neg (by decide), if_pos rfl, jn_cons]
    simp [spW]
  by_cases e5 : k = 5
  · subst e5
    refine goTo _ ?_ (rl5 a b es rs ns _ _ sa rfl (by omega) rfl)
    unfold wdO
    rw [if_neg (by decide), if_neg (by decide), if_neg (by decide), if_neg (by decide), if_pos rfl, jn_cons]
    simp [spW]
  by_cases e6 : k = 6
  · subst e6
    refine goTo _ ?_ (rl6 a b es rs ns _ _ sa rfl (by omega) rfl)
    unfold wdO
    rw [if_neg (by decide), if_neg (by decide), if_neg (by decide), if_neg (by decide), if_neg (by decide), if_pos rfl, jn_cons]
    simp [spW]
  by_cases e7 : k = 7
  · subst e7
    exact goTo _ rfl (rl7 a b es rs ns)
  have e8 : k = 8 := by omega
  subst e8
  exact goTo _ rfl (rl8 a b es rs ns)
end Go.Proofs.YtgiahagbmgnmkaaDoor.Script
/- Script: Large, of a list of operations: rounds of its inner loops. -/
set_option linter.unusedVariables false
set_option linter.unusedSimpArgs false
namespace Go.Proofs.YtgiahagbmgnmkaaDoor.Script
open Go Pv G
abbrev stM1 (k a b : Int) (es : List Edit) (rs : List Int) (ns : List Inl) (c : List D) (cn : Nat) (mm ii : Int) (n j : Nat) : St := ⟨[(5, .d (.int .i64 (n : Int))), (7, .obj 0 0), (16, .d (.sl c cn)), (17, .d (.int .i64 mm)), (18, .d (.int .i64 ii)), (39, .d (editT.slD es)), (40, .d (.int .i64 es.length)), (41, .d (.int .i64 j))], [obO k a b es rs ns], []⟩
abbrev stM1x (k a b : Int) (es : List Edit) (rs : List Int) (ns : List Inl) (c : List D) (cn : Nat) (mm ii : Int) (n j : Nat) : St := ⟨[(5, .d (.int .i64 (n : Int))), (7, .obj 0 0), (16, .d (.sl c cn)), (17, .d (.int .i64 mm)), (18, .d (.int .i64 ii)), (39, .d (editT.slD es)), (40, .d (.int .i64 es.length)), (41, .d (.int .i64 j)), (42, .d (.bool false))], [obO k a b es rs ns], []⟩
abbrev stM2 (k a b : Int) (es : List Edit) (rs : List Int) (ns : List Inl) (c : List D) (cn : Nat) (mm ii : Int) (n j : Nat) : St := ⟨[(5, .d (.int .i64 (n : Int))), (16, .d (.sl c cn)), (17, .d (.int .i64 mm)), (18, .d (.int .i64 ii)), (57, .d (inlT.slD ns)), (58, .d (.int .i64 ns.length)), (59, .d (.int .i64 j))], [obO k a b es rs ns], []⟩
abbrev stM2x (k a b : Int) (es : List Edit) (rs : List Int) (ns : List Inl) (c : List D) (cn : Nat) (mm ii : Int) (n j : Nat) : St := ⟨[(5, .d (.int .i64 (n : Int))), (16, .d (.sl c cn)), (17, .d (.int .i64 mm)), (18, .d (.int .i64 ii)), (57, .d (inlT.slD ns)), (58, .d (.int .i64 ns.length)), (59, .d (.int .i64 j)), (60, .d (.bool false))], [obO k a b es rs ns], []⟩
def lq11_T : Prop := ∀ (k a b : Int) (es : List Edit) (rs : List Int) (ns : List Inl) (c : List D) (cn : Nat) (mm ii : Int) (n j : Nat) (p q : Int) (t : Str) (e : editT.nth es j = (p, q, t, ())) (hl : es.length ≤ 1000) (hn : n ≤ 10000000) (hj : j < es.length) (ht : t.length ≤ 400), RdC X0 0 (ntOf X0 FLg) (lpKeep X0 FLg 1) (lpBody X0 FLg 1) 1 (stM1 k a b es rs ns c cn mm ii n j) (stM1 k a b es rs ns c cn mm ii (n + t.length + 1) (j + 1))
def lq12_T : Prop := ∀ (k a b : Int) (es : List Edit) (rs : List Int) (ns : List Inl) (c : List D) (cn : Nat) (mm ii : Int) (n j : Nat) (p q : Int) (t : Str) (e : editT.nth es j = (p, q, t, ())) (hl : es.length ≤ 1000) (hj : j < es.length) (ht : 400 < t.length), Rd X0 0 (ntOf X0 FLg) (lpBody X0 FLg 1) (stM1 k a b es rs ns c cn mm ii n j) (.ret, stLr1 k a b es rs ns (p, q, t, ()))
def lq13_T : Prop := ∀ (k a b : Int) (es : List Edit) (rs : List Int) (ns : List Inl) (c : List D) (cn : Nat) (mm ii : Int) (n j : Nat) (hj : es.length ≤ j) (h2 : j ≤ 1000), Rd X0 0 (ntOf X0 FLg) (lpBody X0 FLg 1) (stM1 k a b es rs ns c cn mm ii n j) (.exit 2, stM1x k a b es rs ns c cn mm ii n j)
def lq21_T : Prop := ∀ (k a b : Int) (es : List Edit) (rs : List Int) (ns : List Inl) (c : List D) (cn : Nat) (mm ii : Int) (n j : Nat) (p q r u : Int) (t : Str) (e : inlT.nth ns j = (p, q, r, u, t, ())) (hl : ns.length ≤ 1000) (hn : n ≤ 10000000) (hj : j < ns.length) (ht : t.length ≤ 200), RdC X0 0 (ntOf X0 FLg) (lpKeep X0 FLg 2) (lpBody X0 FLg 2) 1 (stM2 k a b es rs ns c cn mm ii n j) (stM2 k a b es rs ns c cn mm ii (n + t.length + 1) (j + 1))
def lq22_T : Prop := ∀ (k a b : Int) (es : List Edit) (rs : List Int) (ns : List Inl) (c : List D) (cn : Nat) (mm ii : Int) (n j : Nat) (p q r u : Int) (t : Str) (e : inlT.nth ns j = (p, q, r, u, t, ())) (hl : ns.length ≤ 1000) (hj : j < ns.length) (ht : 200 < t.length), Rd X0 0 (ntOf X0 FLg) (lpBody X0 FLg 2) (stM2 k a b es rs ns c cn mm ii n j) (.ret, stLr2 k a b es rs ns (p, q, r, u, t, ()))
def lq23_T : Prop := ∀ (k a b : Int) (es : List Edit) (rs : List Int) (ns : List Inl) (c : List D) (cn : Nat) (mm ii : Int) (n j : Nat) (hj : ns.length ≤ j) (h2 : j ≤ 1000), Rd X0 0 (ntOf X0 FLg) (lpBody X0 FLg 2) (stM2 k a b es rs ns c cn mm ii n j) (.exit 4, stM2x k a b es rs ns c cn mm ii n j)
end Go.Proofs.YtgiahagbmgnmkaaDoor.Script
/- Script: paths, printed by a program of mine. -/
set_option maxRecDepth 100000
set_option linter.unusedSimpArgs false
set_option linter.unusedVariables false
namespace Go.Proofs.YtgiahagbmgnmkaaDoor.Script
open Go Pv G
set_option maxHeartbeats 4000000 in
theorem lq11 : lq11_T := by
  intro k a b es rs ns c cn mm ii n j p q t e hl hn hj ht
  have hx0 : (decide ((↑j : Int) < (↑(List.length es) : Int))) = true := by exact decide_eq_true (by omega)
  have hx1 : (decide ((↑(ByteArray.size { data := (List.toArray t) }) : Int) > (400 : Int))) = false := by (first | assumption | (((try simp only [SA] at *); (try simp (disch := omega) only [SB, reduceCtorEq] at *)) <;> first | omega | assumption | (refine ⟨?_, ?_⟩ <;> assumption) | (refine ⟨?_, ?_, ?_⟩ <;> assumption) | (intros; assumption) | (right; right; assumption) | (right; left; assumption) | (left; assumption)))
  exact (pC (st' := { s := [((nat_lit 5), (V.d (D.int IntKind.i64 (IntKind.wrap IntKind.i64 ((IntKind.wrap IntKind.i64 ((↑n : Int) + (↑(ByteArray.size { data := (List.toArray t) }) : Int))) + (1 : Int)))))), ((nat_lit 7), (V.obj (nat_lit 0) (nat_lit 0))), ((nat_lit 16), (V.d (D.sl c cn))), ((nat_lit 17), (V.d (D.int IntKind.i64 mm))), ((nat_lit 18), (V.d (D.int IntKind.i64 ii))), ((nat_lit 39), (V.d (D.sl (List.flatMap (Ty.enc editT) es) (List.length es)))), ((nat_lit 40), (V.d (D.int IntKind.i64 (↑(List.length es) : Int)))), ((nat_lit 41), (V.d (D.int IntKind.i64 (IntKind.wrap IntKind.i64 ((↑j : Int) + (1 : Int))))))], h := [(Ob.cells [(V.d (D.int IntKind.i64 k)), (V.d (D.int IntKind.i64 a)), (V.d (D.int IntKind.i64 b)), (V.d (D.sl (List.flatMap (Ty.enc editT) es) (List.length es))), (V.d (D.sl (List.flatMap (Ty.enc i64) rs) (List.length rs))), (V.d (D.sl (List.flatMap (Ty.enc inlT) ns) (List.length ns)))])], og := [] }) 12 [(1, bt), (2, .v (V.d (D.ref (List.flatMap (Ty.enc editT) es) ((Int.toNat (↑j : Int)) * (3 : Nat))))), (3, .v (V.d (D.agg [(D.int IntKind.i64 p), (D.int IntKind.i64 q), (D.str t)]))), (7, bf)] (cP hx1 (cP (@loadEditE (es) ([(Ob.cells [(V.d (D.int IntKind.i64 k)), (V.d (D.int IntKind.i64 a)), (V.d (D.int IntKind.i64 b)), (V.d (D.sl (List.flatMap (Ty.enc editT) es) (List.length es))), (V.d (D.sl (List.flatMap (Ty.enc i64) rs) (List.length rs))), (V.d (D.sl (List.flatMap (Ty.enc inlT) ns) (List.length ns)))])]) (j) (p) (q) (t) hj e) (cP (@iaddrEdit (es) ((↑j : Int)) (by omega) (by omega)) (cP hx0 nilE)))) (by kernel_rfl)).to (by ((try simp (disch := omega) only [wrapId, sizeOne, sizeStr, List.length_cons, List.length_nil, wrapU8, toNatAdd, toNatSucc] at *) <;> (try simp only [Int.toNat_natCast, beq_iff_eq, beq_eq_false_iff_ne, bne_iff_ne, bne_eq_false_iff_eq, ne_eq, Int.natCast_eq_zero, Int.natCast_inj] at *) <;> first | (simp (disch := omega) [Ty.enc, wrapId, toNatPred, toNatAdd, toNatSucc, sizeOne, sizeStr, List.length_cons, List.length_nil, wrapU8, ltF, ltT, Ty.slD, *]; done) | (subst_vars; simp (disch := omega) [Ty.enc, wrapId, toNatPred, toNatAdd, toNatSucc, sizeOne, sizeStr, List.length_cons, List.length_nil, wrapU8, ltF, ltT, Ty.slD, *]; done)))
set_option maxHeartbeats 4000000 in
theorem lq12 : lq12_T := by
  intro k a b es rs ns c cn mm ii n j p q t e hl hj ht
  have hx0 : (decide ((↑j : Int) < (↑(List.length es) : Int))) = true := by exact decide_eq_true (by omega)
  have hx1 : (decide ((↑(ByteArray.size { data := (List.toArray t) }) : Int) > (400 : Int))) = true := by (first | assumption | (((try simp only [SA] at *); (try simp (disch := omega) only [SB, reduceCtorEq] at *)) <;> first | omega | assumption | (refine ⟨?_, ?_⟩ <;> assumption) | (refine ⟨?_, ?_, ?_⟩ <;> assumption) | (intros; assumption) | (right; right; assumption) | (right; left; assumption) | (left; assumption)))
  exact pR 12 [(1, bt), (2, .v (V.d (D.ref (List.flatMap (Ty.enc editT) es) ((Int.toNat (↑j : Int)) * (3 : Nat))))), (3, .v (V.d (D.agg [(D.int IntKind.i64 p), (D.int IntKind.i64 q), (D.str t)]))), (7, bt)] (cP hx1 (cP (@loadEditE (es) ([(Ob.cells [(V.d (D.int IntKind.i64 k)), (V.d (D.int IntKind.i64 a)), (V.d (D.int IntKind.i64 b)), (V.d (D.sl (List.flatMap (Ty.enc editT) es) (List.length es))), (V.d (D.sl (List.flatMap (Ty.enc i64) rs) (List.length rs))), (V.d (D.sl (List.flatMap (Ty.enc inlT) ns) (List.length ns)))])]) (j) (p) (q) (t) hj e) (cP (@iaddrEdit (es) ((↑j : Int)) (by omega) (by omega)) (cP hx0 nilE)))) (by kernel_rfl)
set_option maxHeartbeats 4000000 in
theorem lq13 : lq13_T := by
  intro k a b es rs ns c cn mm ii n j hj h2
  have hx0 : (decide ((↑j : Int) < (↑(List.length es) : Int))) = false := by exact decide_eq_false (by omega)
  exact (pR (r := ((Ex.exit (nat_lit 2)), { s := [((nat_lit 5), (V.d (D.int IntKind.i64 (↑n : Int)))), ((nat_lit 7), (V.obj (nat_lit 0) (nat_lit 0))), ((nat_lit 16), (V.d (D.sl c cn))), ((nat_lit 17), (V.d (D.int IntKind.i64 mm))), ((nat_lit 18), (V.d (D.int IntKind.i64 ii))), ((nat_lit 39), (V.d (D.sl (List.flatMap (Ty.enc editT) es) (List.length es)))), ((nat_lit 40), (V.d (D.int IntKind.i64 (↑(List.length es) : Int)))), ((nat_lit 41), (V.d (D.int IntKind.i64 (↑j : Int)))), ((nat_lit 42), (V.d (D.bool (decide ((↑j : Int) < (↑(List.length es) : Int))))))], h := [(Ob.cells [(V.d (D.int IntKind.i64 k)), (V.d (D.int IntKind.i64 a)), (V.d (D.int IntKind.i64 b)), (V.d (D.sl (List.flatMap (Ty.enc editT) es) (List.length es))), (V.d (D.sl (List.flatMap (Ty.enc i64) rs) (List.length rs))), (V.d (D.sl (List.flatMap (Ty.enc inlT) ns) (List.length ns)))])], og := [] })) 12 [(1, bf)] (cP hx0 nilE) (by kernel_rfl)).to (by ((try simp (disch := omega) only [wrapId, sizeOne, sizeStr, List.length_cons, List.length_nil, wrapU8, toNatAdd, toNatSucc] at *) <;> (try simp only [Int.toNat_natCast, beq_iff_eq, beq_eq_false_iff_ne, bne_iff_ne, bne_eq_false_iff_eq, ne_eq, Int.natCast_eq_zero, Int.natCast_inj] at *) <;> first | (simp (disch := omega) [Ty.enc, wrapId, toNatPred, toNatAdd, toNatSucc, sizeOne, sizeStr, List.length_cons, List.length_nil, wrapU8, ltF, ltT, Ty.slD, *]; done) | (subst_vars; simp (disch := omega) [Ty.enc, wrapId, toNatPred, toNatAdd, toNatSucc, sizeOne, sizeStr, List.length_cons, List.length_nil, wrapU8, ltF, ltT, Ty.slD, *]; done)))
set_option maxHeartbeats 4000000 in
theorem lq21 : lq21_T := by
  intro k a b es rs ns c cn mm ii n j p q r u t e hl hn hj ht
  have hx0 : (decide ((↑j : Int) < (↑(List.length ns) : Int))) = true := by exact decide_eq_true (by omega)
  have hx1 : (decide ((↑(ByteArray.size { data := (List.toArray t) }) : Int) > (200 : Int))) = false := by (first | assumption | (((try simp only [SA] at *); (try simp (disch := omega) only [SB, reduceCtorEq] at *)) <;> first | omega | assumption | (refine ⟨?_, ?_⟩ <;> assumption) | (refine ⟨?_, ?_, ?_⟩ <;> assumption) | (intros; assumption) | (right; right; assumption) | (right; left; assumption) | (left; assumption)))
  exact (pC (st' := { s := [((nat_lit 5), (V.d (D.int IntKind.i64 (IntKind.wrap IntKind.i64 ((IntKind.wrap IntKind.i64 ((↑n : Int) + (↑(ByteArray.size { data := (List.toArray t) }) : Int))) + (1 : Int)))))), ((nat_lit 16), (V.d (D.sl c cn))), ((nat_lit 17), (V.d (D.int IntKind.i64 mm))), ((nat_lit 18), (V.d (D.int IntKind.i64 ii))), ((nat_lit 57), (V.d (D.sl (List.flatMap (Ty.enc inlT) ns) (List.length ns)))), ((nat_lit 58), (V.d (D.int IntKind.i64 (↑(List.length ns) : Int)))), ((nat_lit 59), (V.d (D.int IntKind.i64 (IntKind.wrap IntKind.i64 ((↑j : Int) + (1 : Int))))))], h := [(Ob.cells [(V.d (D.int IntKind.i64 k)), (V.d (D.int IntKind.i64 a)), (V.d (D.int IntKind.i64 b)), (V.d (D.sl (List.flatMap (Ty.enc editT) es) (List.length es))), (V.d (D.sl (List.flatMap (Ty.enc i64) rs) (List.length rs))), (V.d (D.sl (List.flatMap (Ty.enc inlT) ns) (List.length ns)))])], og := [] }) 12 [(1, bt), (2, .v (V.d (D.ref (List.flatMap (Ty.enc inlT) ns) ((Int.toNat (↑j : Int)) * (5 : Nat))))), (3, .v (V.d (D.agg [(D.int IntKind.i64 p), (D.int IntKind.i64 q), (D.int IntKind.i64 r), (D.int IntKind.i64 u), (D.str t)]))), (7, bf)] (cP hx1 (cP (@loadInlE (ns) ([(Ob.cells [(V.d (D.int IntKind.i64 k)), (V.d (D.int IntKind.i64 a)), (V.d (D.int IntKind.i64 b)), (V.d (D.sl (List.flatMap (Ty.enc editT) es) (List.length es))), (V.d (D.sl (List.flatMap (Ty.enc i64) rs) (List.length rs))), (V.d (D.sl (List.flatMap (Ty.enc inlT) ns) (List.length ns)))])]) (j) (p) (q) (r) (u) (t) hj e) (cP (@iaddrInl (ns) ((↑j : Int)) (by omega) (by omega)) (cP hx0 nilE)))) (by kernel_rfl)).to (by ((try simp (disch := omega) only [wrapId, sizeOne, sizeStr, List.length_cons, List.length_nil, wrapU8, toNatAdd, toNatSucc] at *) <;> (try simp only [Int.toNat_natCast, beq_iff_eq, beq_eq_false_iff_ne, bne_iff_ne, bne_eq_false_iff_eq, ne_eq, Int.natCast_eq_zero, Int.natCast_inj] at *) <;> first | (simp (disch := omega) [Ty.enc, wrapId, toNatPred, toNatAdd, toNatSucc, sizeOne, sizeStr, List.length_cons, List.length_nil, wrapU8, ltF, ltT, Ty.slD, *]; done) | (subst_vars; simp (disch := omega) [Ty.enc, wrapId, toNatPred, toNatAdd, toNatSucc, sizeOne, sizeStr, List.length_cons, List.length_nil, wrapU8, ltF, ltT, Ty.slD, *]; done)))
set_option maxHeartbeats 4000000 in
theorem lq22 : lq22_T := by
  intro k a b es rs ns c cn mm ii n j p q r u t e hl hj ht
  have hx0 : (decide ((↑j : Int) < (↑(List.length ns) : Int))) = true := by exact decide_eq_true (by omega)
  have hx1 : (decide ((↑(ByteArray.size { data := (List.toArray t) }) : Int) > (200 : Int))) = true := by (first | assumption | (((try simp only [SA] at *); (try simp (disch := omega) only [SB, reduceCtorEq] at *)) <;> first | omega | assumption | (refine ⟨?_, ?_⟩ <;> assumption) | (refine ⟨?_, ?_, ?_⟩ <;> assumption) | (intros; assumption) | (right; right; assumption) | (right; left; assumption) | (left; assumption)))
  exact pR 12 [(1, bt), (2, .v (V.d (D.ref (List.flatMap (Ty.enc inlT) ns) ((Int.toNat (↑j : Int)) * (5 : Nat))))), (3, .v (V.d (D.agg [(D.int IntKind.i64 p), (D.int IntKind.i64 q), (D.int IntKind.i64 r), (D.int IntKind.i64 u), (D.str t)]))), (7, bt)] (cP hx1 (cP (@loadInlE (ns) ([(Ob.cells [(V.d (D.int IntKind.i64 k)), (V.d (D.int IntKind.i64 a)), (V.d (D.int IntKind.i64 b)), (V.d (D.sl (List.flatMap (Ty.enc editT) es) (List.length es))), (V.d (D.sl (List.flatMap (Ty.enc i64) rs) (List.length rs))), (V.d (D.sl (List.flatMap (Ty.enc inlT) ns) (List.length ns)))])]) (j) (p) (q) (r) (u) (t) hj e) (cP (@iaddrInl (ns) ((↑j : Int)) (by omega) (by omega)) (cP hx0 nilE)))) (by kernel_rfl)
set_option maxHeartbeats 4000000 in
theorem lq23 : lq23_T := by
  intro k a b es rs ns c cn mm ii n j hj h2
  have hx0 : (decide ((↑j : Int) < (↑(List.length ns) : Int))) = false := by exact decide_eq_false (by omega)
  exact (pR (r := ((Ex.exit (nat_lit 4)), { s := [((nat_lit 5), (V.d (D.int IntKind.i64 (↑n : Int)))), ((nat_lit 16), (V.d (D.sl c cn))), ((nat_lit 17), (V.d (D.int IntKind.i64 mm))), ((nat_lit 18), (V.d (D.int IntKind.i64 ii))), ((nat_lit 57), (V.d (D.sl (List.flatMap (Ty.enc inlT) ns) (List.length ns)))), ((nat_lit 58), (V.d (D.int IntKind.i64 (↑(List.length ns) : Int)))), ((nat_lit 59), (V.d (D.int IntKind.i64 (↑j : Int)))), ((nat_lit 60), (V.d (D.bool (decide ((↑j : Int) < (↑(List.length ns) : Int))))))], h := [(Ob.cells [(V.d (D.int IntKind.i64 k)), (V.d (D.int IntKind.i64 a)), (V.d (D.int IntKind.i64 b)), (V.d (D.sl (List.flatMap (Ty.enc editT) es) (List.length es))), (V.d (D.sl (List.flatMap (Ty.enc i64) rs) (List.length rs))), (V.d (D.sl (List.flatMap (Ty.enc inlT) ns) (List.length ns)))])], og := [] })) 12 [(1, bf)] (cP hx0 nilE) (by kernel_rfl)).to (by ((try simp (disch := omega) only [wrapId, sizeOne, sizeStr, List.length_cons, List.length_nil, wrapU8, toNatAdd, toNatSucc] at *) <;> (try simp only [Int.toNat_natCast, beq_iff_eq, beq_eq_false_iff_ne, bne_iff_ne, bne_eq_false_iff_eq, ne_eq, Int.natCast_eq_zero, Int.natCast_inj] at *) <;> first | (simp (disch := omega) [Ty.enc, wrapId, toNatPred, toNatAdd, toNatSucc, sizeOne, sizeStr, List.length_cons, List.length_nil, wrapU8, ltF, ltT, Ty.slD, *]; done) | (subst_vars; simp (disch := omega) [Ty.enc, wrapId, toNatPred, toNatAdd, toNatSucc, sizeOne, sizeStr, List.length_cons, List.length_nil, wrapU8, ltF, ltT, Ty.slD, *]; done)))
end Go.Proofs.YtgiahagbmgnmkaaDoor.Script
/- Script: Large, of a list of operations: its inner loops; its outer rounds. -/
set_option linter.unusedVariables false
set_option linter.unusedSimpArgs false
namespace Go.Proofs.YtgiahagbmgnmkaaDoor.Script
open Go Pv G
theorem lqC1 (k a b : Int) (es : List Edit) (rs : List Int) (ns : List Inl) (c : List D) (cn : Nat) (mm ii : Int) (hl : es.length ≤ 70) : ∀ f j n m, j + f = es.length → n ≤ 401 * j + 5000000 → f < m →
    ((es.drop j).find? long1 = none → LpC X0 0 (ntOf X0 FLg) (lpKeep X0 FLg 1) (lpBody X0 FLg 1) 1 m (stM1 k a b es rs ns c cn mm ii n j) (.exit 2, stM1x k a b es rs ns c cn mm ii (n + sum1 (es.drop j)) es.length)) ∧
    (∀ x, (es.drop j).find? long1 = some x → LpC X0 0 (ntOf X0 FLg) (lpKeep X0 FLg 1) (lpBody X0 FLg 1) 1 m (stM1 k a b es rs ns c cn mm ii n j) (.ret, stLr1 k a b es rs ns x)) := by
  intro f
  induction f with
  | zero =>
    intro j n m hj hn hm
    obtain rfl : j = es.length := by omega
    obtain ⟨m, rfl⟩ : ∃ x, m = x + 1 := ⟨m - 1, by omega⟩
    rw [List.drop_of_length_le (Nat.le_refl _)]
    exact ⟨fun _ => LpC.last (lq13 k a b es rs ns c cn mm ii n es.length (by omega) (by omega)) (by simp), fun x h => by cases h⟩
  | succ f ih =>
    intro j n m hj hn hm
    obtain ⟨m, rfl⟩ : ∃ x, m = x + 1 := ⟨m - 1, by omega⟩
    have hlt : j < es.length := by omega
    have e := nthE hlt
    rw [List.drop_eq_getElem_cons hlt, List.find?_cons]
    cases hb : long1 es[j] with
    | true =>
      have ht : 400 < (es[j]).2.2.1.length := of_decide_eq_true hb
      refine ⟨fun h => (by cases h), fun x h => ?_⟩
      cases h
      exact LpC.last (lq12 k a b es rs ns c cn mm ii n j es[j].1 es[j].2.1 es[j].2.2.1 e (by omega) hlt ht) (by simp)
    | false =>
      have ht : (es[j]).2.2.1.length ≤ 400 := by
        have := of_decide_eq_false hb; omega
      have step := lq11 k a b es rs ns c cn mm ii n j es[j].1 es[j].2.1 es[j].2.2.1 e (by omega) (by omega) hlt ht
      have nxt := ih (j + 1) (n + (es[j]).2.2.1.length + 1) m (by omega) (by omega) (by omega)
      refine ⟨fun h => ?_, fun x h => LpC.next step (nxt.2 x h)⟩
      have := nxt.1 h
      rw [show n + (es[j]).2.2.1.length + 1 + sum1 (es.drop (j + 1)) = n + sum1 (es[j] :: es.drop (j + 1)) by unfold sum1; rw [List.map_cons, List.sum_cons]; omega] at this
      exact LpC.next step this
def lqY1_T : Prop := ∀ (k a b : Int) (es : List Edit) (rs : List Int) (ns : List Inl) (c : List D) (cn : Nat) (mm ii : Int) (n n2 : Nat) (hl : es.length ≤ 70) (hn : n ≤ 5000000) (h : es.find? long1 = none) (e : n + sum1 es = n2), Lp X0 0 (ntOf X0 FLg) (lpKeep X0 FLg 1) (lpBody X0 FLg 1) 1 FUEL (stM1 k a b es rs ns c cn mm ii n 0) (.exit 2, stM1x k a b es rs ns c cn mm ii n2 es.length)
theorem lqY1 : lqY1_T := fun k a b es rs ns c cn mm ii n n2 hl hn h e => by
  subst e
  have := (lqC1 k a b es rs ns c cn mm ii hl es.length 0 n 1152921504606846975 (by omega) (by omega) (by omega)).1 h
  exact LpC.start (m := 1152921504606846975) this (by kernel_rfl)
def lqN1_T : Prop := ∀ (k a b : Int) (es : List Edit) (rs : List Int) (ns : List Inl) (c : List D) (cn : Nat) (mm ii : Int) (n : Nat) (x : Edit) (hl : es.length ≤ 70) (hn : n ≤ 5000000) (h : es.find? long1 = some x), Lp X0 0 (ntOf X0 FLg) (lpKeep X0 FLg 1) (lpBody X0 FLg 1) 1 FUEL (stM1 k a b es rs ns c cn mm ii n 0) (.ret, stLr1 k a b es rs ns x)
theorem lqN1 : lqN1_T := fun k a b es rs ns c cn mm ii n x hl hn h => LpC.start (m := 1152921504606846975) ((lqC1 k a b es rs ns c cn mm ii hl es.length 0 n 1152921504606846975 (by omega) (by omega) (by omega)).2 x h) (by kernel_rfl)
theorem lqC2 (k a b : Int) (es : List Edit) (rs : List Int) (ns : List Inl) (c : List D) (cn : Nat) (mm ii : Int) (hl : ns.length ≤ 70) : ∀ f j n m, j + f = ns.length → n ≤ 401 * j + 5000000 → f < m →
    ((ns.drop j).find? long2 = none → LpC X0 0 (ntOf X0 FLg) (lpKeep X0 FLg 2) (lpBody X0 FLg 2) 1 m (stM2 k a b es rs ns c cn mm ii n j) (.exit 4, stM2x k a b es rs ns c cn mm ii (n + sum2 (ns.drop j)) ns.length)) ∧
    (∀ x, (ns.drop j).find? long2 = some x → LpC X0 0 (ntOf X0 FLg) (lpKeep X0 FLg 2) (lpBody X0 FLg 2) 1 m (stM2 k a b es rs ns c cn mm ii n j) (.ret, stLr2 k a b es rs ns x)) := by
  intro f
  induction f with
  | zero =>
    intro j n m hj hn hm
    obtain rfl : j = ns.length := by omega
    obtain ⟨m, rfl⟩ : ∃ x, m = x + 1 := ⟨m - 1, by omega⟩
    rw [List.drop_of_length_le (Nat.le_refl _)]
    exact ⟨fun _ => LpC.last (lq23 k a b es rs ns c cn mm ii n ns.length (by omega) (by omega)) (by simp), fun x h => by cases h⟩
  | succ f ih =>
    intro j n m hj hn hm
    obtain ⟨m, rfl⟩ : ∃ x, m = x + 1 := ⟨m - 1, by omega⟩
    have hlt : j < ns.length := by omega
    have e := nthN hlt
    rw [List.drop_eq_getElem_cons hlt, List.find?_cons]
    cases hb : long2 ns[j] with
    | true =>
      have ht : 200 < (ns[j]).2.2.2.2.1.length := of_decide_eq_true hb
      refine ⟨fun h => (by cases h), fun x h => ?_⟩
      cases h
      exact LpC.last (lq22 k a b es rs ns c cn mm ii n j ns[j].1 ns[j].2.1 ns[j].2.2.1 ns[j].2.2.2.1 ns[j].2.2.2.2.1 e (by omega) hlt ht) (by simp)
    | false =>
      have ht : (ns[j]).2.2.2.2.1.length ≤ 200 := by
        have := of_decide_eq_false hb; omega
      have step := lq21 k a b es rs ns c cn mm ii n j ns[j].1 ns[j].2.1 ns[j].2.2.1 ns[j].2.2.2.1 ns[j].2.2.2.2.1 e (by omega) (by omega) hlt ht
      have nxt := ih (j + 1) (n + (ns[j]).2.2.2.2.1.length + 1) m (by omega) (by omega) (by omega)
      refine ⟨fun h => ?_, fun x h => LpC.next step (nxt.2 x h)⟩
      have := nxt.1 h
      rw [show n + (ns[j]).2.2.2.2.1.length + 1 + sum2 (ns.drop (j + 1)) = n + sum2 (ns[j] :: ns.drop (j + 1)) by unfold sum2; rw [List.map_cons, List.sum_cons]; omega] at this
      exact LpC.next step this
def lqY2_T : Prop := ∀ (k a b : Int) (es : List Edit) (rs : List Int) (ns : List Inl) (c : List D) (cn : Nat) (mm ii : Int) (n n2 : Nat) (hl : ns.length ≤ 70) (hn : n ≤ 5000000) (h : ns.find? long2 = none) (e : n + sum2 ns = n2), Lp X0 0 (ntOf X0 FLg) (lpKeep X0 FLg 2) (lpBody X0 FLg 2) 1 FUEL (stM2 k a b es rs ns c cn mm ii n 0) (.exit 4, stM2x k a b es rs ns c cn mm ii n2 ns.length)
theorem lqY2 : lqY2_T := fun k a b es rs ns c cn mm ii n n2 hl hn h e => by
  subst e
  have := (lqC2 k a b es rs ns c cn mm ii hl ns.length 0 n 1152921504606846975 (by omega) (by omega) (by omega)).1 h
  exact LpC.start (m := 1152921504606846975) this (by kernel_rfl)
def lqN2_T : Prop := ∀ (k a b : Int) (es : List Edit) (rs : List Int) (ns : List Inl) (c : List D) (cn : Nat) (mm ii : Int) (n : Nat) (x : Inl) (hl : ns.length ≤ 70) (hn : n ≤ 5000000) (h : ns.find? long2 = some x), Lp X0 0 (ntOf X0 FLg) (lpKeep X0 FLg 2) (lpBody X0 FLg 2) 1 FUEL (stM2 k a b es rs ns c cn mm ii n 0) (.ret, stLr2 k a b es rs ns x)
theorem lqN2 : lqN2_T := fun k a b es rs ns c cn mm ii n x hl hn h => LpC.start (m := 1152921504606846975) ((lqC2 k a b es rs ns c cn mm ii hl ns.length 0 n 1152921504606846975 (by omega) (by omega) (by omega)).2 x h) (by kernel_rfl)
abbrev stN0 (c : List D) (cn : Nat) (n : Nat) (i : Nat) : St := ⟨[(5, .d (.int .i64 (n : Int))), (16, .d (.sl c cn)), (17, .d (.int .i64 (cn : Int))), (18, .d (.int .i64 i))], [], []⟩
abbrev stN0x (c : List D) (cn : Nat) (n : Nat) (i : Nat) : St := ⟨[(5, .d (.int .i64 (n : Int))), (16, .d (.sl c cn)), (17, .d (.int .i64 (cn : Int))), (18, .d (.int .i64 i)), (19, .d (.bool false))], [], []⟩
abbrev stN0r (k a b : Int) (es : List Edit) (rs : List Int) (ns : List Inl) : St := ⟨[(4, .d (.bool true))], [obO k a b es rs ns], []⟩
def lo1_T : Prop := ∀ (l : List Op) (n n1 n2 i : Nat) (k a b : Int) (es : List Edit) (rs : List Int) (ns : List Inl) (e : opT.nth l i = (k, a, b, es, rs, ns, ())) (hl : l.length ≤ 60) (hi : i < l.length) (h1 : es.length ≤ 70) (h2 : rs.length ≤ 70) (h3 : ns.length ≤ 70) (hn : n ≤ 5000000) (f1 : es.find? long1 = none) (e1 : n + sum1 es = n1) (hn1 : n1 ≤ 5000000) (f2 : ns.find? long2 = none) (e2 : n1 + sum2 ns = n2),
  RdC X0 0 (ntOf X0 FLg) (lpKeep X0 FLg 0) (lpBody X0 FLg 0) 0 (stN0 (l.flatMap opT.enc) l.length n i) (stN0 (l.flatMap opT.enc) l.length n2 (i + 1))
def lo2_T : Prop := ∀ (l : List Op) (n i : Nat) (k a b : Int) (es : List Edit) (rs : List Int) (ns : List Inl) (e : opT.nth l i = (k, a, b, es, rs, ns, ())) (hl : l.length ≤ 60) (hi : i < l.length) (h1 : 70 < es.length), Rd X0 0 (ntOf X0 FLg) (lpBody X0 FLg 0) (stN0 (l.flatMap opT.enc) l.length n i) (.ret, stN0r k a b es rs ns)
def lo3_T : Prop := ∀ (l : List Op) (n i : Nat) (k a b : Int) (es : List Edit) (rs : List Int) (ns : List Inl) (e : opT.nth l i = (k, a, b, es, rs, ns, ())) (hl : l.length ≤ 60) (hi : i < l.length) (h1 : es.length ≤ 70) (h2 : 70 < rs.length), Rd X0 0 (ntOf X0 FLg) (lpBody X0 FLg 0) (stN0 (l.flatMap opT.enc) l.length n i) (.ret, stN0r k a b es rs ns)
def lo4_T : Prop := ∀ (l : List Op) (n i : Nat) (k a b : Int) (es : List Edit) (rs : List Int) (ns : List Inl) (e : opT.nth l i = (k, a, b, es, rs, ns, ())) (hl : l.length ≤ 60) (hi : i < l.length) (h1 : es.length ≤ 70) (h2 : rs.length ≤ 70) (h3 : 70 < ns.length), Rd X0 0 (ntOf X0 FLg) (lpBody X0 FLg 0) (stN0 (l.flatMap opT.enc) l.length n i) (.ret, stN0r k a b es rs ns)
def lo5_T : Prop := ∀ (l : List Op) (n i : Nat) (k a b : Int) (es : List Edit) (rs : List Int) (ns : List Inl) (x : Edit) (e : opT.nth l i = (k, a, b, es, rs, ns, ())) (hl : l.length ≤ 60) (hi : i < l.length) (h1 : es.length ≤ 70) (h2 : rs.length ≤ 70) (h3 : ns.length ≤ 70) (hn : n ≤ 5000000) (f1 : es.find? long1 = some x), Rd X0 0 (ntOf X0 FLg) (lpBody X0 FLg 0) (stN0 (l.flatMap opT.enc) l.length n i) (.ret, stLr1 k a b es rs ns x)
def lo6_T : Prop := ∀ (l : List Op) (n n1 i : Nat) (k a b : Int) (es : List Edit) (rs : List Int) (ns : List Inl) (x : Inl) (e : opT.nth l i = (k, a, b, es, rs, ns, ())) (hl : l.length ≤ 60) (hi : i < l.length) (h1 : es.length ≤ 70) (h2 : rs.length ≤ 70) (h3 : ns.length ≤ 70) (hn : n ≤ 5000000) (f1 : es.find? long1 = none) (e1 : n + sum1 es = n1) (hn1 : n1 ≤ 5000000) (f2 : ns.find? long2 = some x), Rd X0 0 (ntOf X0 FLg) (lpBody X0 FLg 0) (stN0 (l.flatMap opT.enc) l.length n i) (.ret, stLr2 k a b es rs ns x)
def lo7_T : Prop := ∀ (l : List Op) (n i : Nat) (hl : l.length ≤ 60) (hi : l.length ≤ i) (hi2 : i ≤ 60), Rd X0 0 (ntOf X0 FLg) (lpBody X0 FLg 0) (stN0 (l.flatMap opT.enc) l.length n i) (.exit 0, stN0x (l.flatMap opT.enc) l.length n i)
end Go.Proofs.YtgiahagbmgnmkaaDoor.Script
/- Script: paths, printed by a program of mine. -/
set_option maxRecDepth 100000
set_option linter.unusedSimpArgs false
set_option linter.unusedVariables false
namespace Go.Proofs.YtgiahagbmgnmkaaDoor.Script
open Go Pv G
set_option maxHeartbeats 4000000 in
theorem lo1 : lo1_T := by
  intro l n n1 n2 i k a b es rs ns e hl hi h1 h2 h3 hn f1 e1 hn1 f2 e2
  have hx0 : (decide ((↑i : Int) < (↑(List.length l) : Int))) = true := by exact decide_eq_true (by omega)
  have hx1 : (decide ((↑(List.length es) : Int) > (70 : Int))) = false := by exact decide_eq_false (by omega)
  have hx2 : (decide ((↑(List.length rs) : Int) > (70 : Int))) = false := by exact decide_eq_false (by omega)
  have hx3 : (decide ((↑(List.length ns) : Int) > (70 : Int))) = false := by exact decide_eq_false (by omega)
  exact (pC (st' := { s := [((nat_lit 5), (V.d (D.int IntKind.i64 (↑n2 : Int)))), ((nat_lit 16), (V.d (D.sl (List.flatMap (Ty.enc opT) l) (List.length l)))), ((nat_lit 17), (V.d (D.int IntKind.i64 (↑(List.length l) : Int)))), ((nat_lit 18), (V.d (D.int IntKind.i64 (IntKind.wrap IntKind.i64 ((↑i : Int) + (1 : Int))))))], h := [], og := [] }) 12 [(1, bt), (2, .v (V.d (D.ref (List.flatMap (Ty.enc opT) l) ((Int.toNat (↑i : Int)) * (6 : Nat))))), (3, .v (V.d (opR k a b es rs ns))), (7, bf), (8, bf), (10, bf), (12, bf), (14, bf), (15, bf), (16, bf), (18, bf), (20, bf), (22, bf), (23, bf), (26, .l (Ex.exit (2 : Nat)) (stM1x k a b es rs ns (List.flatMap (Ty.enc opT) l) (List.length l) (↑(List.length l) : Int) (↑i : Int) n1 (List.length es))), (29, .l (Ex.exit (4 : Nat)) (stM2x k a b es rs ns (List.flatMap (Ty.enc opT) l) (List.length l) (↑(List.length l) : Int) (↑i : Int) n2 (List.length ns)))] (cE (@lqY2 (k) (a) (b) (es) (rs) (ns) (List.flatMap (Ty.enc opT) l) (List.length l) ((↑(List.length l) : Int)) ((↑i : Int)) (n1) (n2) h3 hn1 f2 e2) (cE (@lqY1 (k) (a) (b) (es) (rs) (ns) (List.flatMap (Ty.enc opT) l) (List.length l) ((↑(List.length l) : Int)) ((↑i : Int)) (n) (n1) h1 hn f1 e1) (cP hx3 (cP hx2 (cP hx2 (cP hx2 (cP hx2 (cP hx2 (cP hx1 (cP hx1 (cP hx1 (cP hx1 (cP hx1 (cP (@loadOpE (l) ([]) (i) (k) (a) (b) (es) (rs) (ns) hi e) (cP (@iaddrOp (l) ((↑i : Int)) (by omega) (by omega)) (cP hx0 nilE)))))))))))))))) (by kernel_rfl)).to (by ((try simp (disch := omega) only [wrapId, sizeOne, sizeStr, List.length_cons, List.length_nil, wrapU8, toNatAdd, toNatSucc] at *) <;> (try simp only [Int.toNat_natCast, beq_iff_eq, beq_eq_false_iff_ne, bne_iff_ne, bne_eq_false_iff_eq, ne_eq, Int.natCast_eq_zero, Int.natCast_inj] at *) <;> first | (simp (disch := omega) [Ty.enc, wrapId, toNatPred, toNatAdd, toNatSucc, sizeOne, sizeStr, List.length_cons, List.length_nil, wrapU8, ltF, ltT, Ty.slD, *]; done) | (subst_vars; simp (disch := omega) [Ty.enc, wrapId, toNatPred, toNatAdd, toNatSucc, sizeOne, sizeStr, List.length_cons, List.length_nil, wrapU8, ltF, ltT, Ty.slD, *]; done)))
set_option maxHeartbeats 4000000 in
theorem lo2 : lo2_T := by
  intro l n i k a b es rs ns e hl hi h1
  have hx0 : (decide ((↑i : Int) < (↑(List.length l) : Int))) = true := by exact decide_eq_true (by omega)
  have hx1 : (decide ((↑(List.length es) : Int) > (70 : Int))) = true := by exact decide_eq_true (by omega)
  exact pR 12 [(1, bt), (2, .v (V.d (D.ref (List.flatMap (Ty.enc opT) l) ((Int.toNat (↑i : Int)) * (6 : Nat))))), (3, .v (V.d (opR k a b es rs ns))), (7, bt), (8, bt), (9, bt), (10, bt), (11, bt)] (cP hx1 (cP hx1 (cP hx1 (cP hx1 (cP hx1 (cP (@loadOpE (l) ([]) (i) (k) (a) (b) (es) (rs) (ns) hi e) (cP (@iaddrOp (l) ((↑i : Int)) (by omega) (by omega)) (cP hx0 nilE)))))))) (by kernel_rfl)
set_option maxHeartbeats 4000000 in
theorem lo3 : lo3_T := by
  intro l n i k a b es rs ns e hl hi h1 h2
  have hx0 : (decide ((↑i : Int) < (↑(List.length l) : Int))) = true := by exact decide_eq_true (by omega)
  have hx1 : (decide ((↑(List.length es) : Int) > (70 : Int))) = false := by exact decide_eq_false (by omega)
  have hx2 : (decide ((↑(List.length rs) : Int) > (70 : Int))) = true := by exact decide_eq_true (by omega)
  exact pR 12 [(1, bt), (2, .v (V.d (D.ref (List.flatMap (Ty.enc opT) l) ((Int.toNat (↑i : Int)) * (6 : Nat))))), (3, .v (V.d (opR k a b es rs ns))), (7, bf), (8, bf), (10, bf), (12, bf), (14, bf), (15, bt), (16, bt), (17, bt), (18, bt), (19, bt)] (cP hx2 (cP hx2 (cP hx2 (cP hx2 (cP hx2 (cP hx1 (cP hx1 (cP hx1 (cP hx1 (cP hx1 (cP (@loadOpE (l) ([]) (i) (k) (a) (b) (es) (rs) (ns) hi e) (cP (@iaddrOp (l) ((↑i : Int)) (by omega) (by omega)) (cP hx0 nilE))))))))))))) (by kernel_rfl)
set_option maxHeartbeats 4000000 in
theorem lo4 : lo4_T := by
  intro l n i k a b es rs ns e hl hi h1 h2 h3
  have hx0 : (decide ((↑i : Int) < (↑(List.length l) : Int))) = true := by exact decide_eq_true (by omega)
  have hx1 : (decide ((↑(List.length es) : Int) > (70 : Int))) = false := by exact decide_eq_false (by omega)
  have hx2 : (decide ((↑(List.length rs) : Int) > (70 : Int))) = false := by exact decide_eq_false (by omega)
  have hx3 : (decide ((↑(List.length ns) : Int) > (70 : Int))) = true := by exact decide_eq_true (by omega)
  exact pR 12 [(1, bt), (2, .v (V.d (D.ref (List.flatMap (Ty.enc opT) l) ((Int.toNat (↑i : Int)) * (6 : Nat))))), (3, .v (V.d (opR k a b es rs ns))), (7, bf), (8, bf), (10, bf), (12, bf), (14, bf), (15, bf), (16, bf), (18, bf), (20, bf), (22, bf), (23, bt)] (cP hx3 (cP hx2 (cP hx2 (cP hx2 (cP hx2 (cP hx2 (cP hx1 (cP hx1 (cP hx1 (cP hx1 (cP hx1 (cP (@loadOpE (l) ([]) (i) (k) (a) (b) (es) (rs) (ns) hi e) (cP (@iaddrOp (l) ((↑i : Int)) (by omega) (by omega)) (cP hx0 nilE)))))))))))))) (by kernel_rfl)
set_option maxHeartbeats 4000000 in
theorem lo5 : lo5_T := by
  intro l n i k a b es rs ns x e hl hi h1 h2 h3 hn f1
  have hx0 : (decide ((↑i : Int) < (↑(List.length l) : Int))) = true := by exact decide_eq_true (by omega)
  have hx1 : (decide ((↑(List.length es) : Int) > (70 : Int))) = false := by exact decide_eq_false (by omega)
  have hx2 : (decide ((↑(List.length rs) : Int) > (70 : Int))) = false := by exact decide_eq_false (by omega)
  have hx3 : (decide ((↑(List.length ns) : Int) > (70 : Int))) = false := by exact decide_eq_false (by omega)
  exact pR 12 [(1, bt), (2, .v (V.d (D.ref (List.flatMap (Ty.enc opT) l) ((Int.toNat (↑i : Int)) * (6 : Nat))))), (3, .v (V.d (opR k a b es rs ns))), (7, bf), (8, bf), (10, bf), (12, bf), (14, bf), (15, bf), (16, bf), (18, bf), (20, bf), (22, bf), (23, bf), (26, .l (Ex.ret) (stLr1 k a b es rs ns x))] (cE (@lqN1 (k) (a) (b) (es) (rs) (ns) (List.flatMap (Ty.enc opT) l) (List.length l) ((↑(List.length l) : Int)) ((↑i : Int)) (n) (x) h1 hn f1) (cP hx3 (cP hx2 (cP hx2 (cP hx2 (cP hx2 (cP hx2 (cP hx1 (cP hx1 (cP hx1 (cP hx1 (cP hx1 (cP (@loadOpE (l) ([]) (i) (k) (a) (b) (es) (rs) (ns) hi e) (cP (@iaddrOp (l) ((↑i : Int)) (by omega) (by omega)) (cP hx0 nilE))))))))))))))) (by kernel_rfl)
set_option maxHeartbeats 4000000 in
theorem lo6 : lo6_T := by
  intro l n n1 i k a b es rs ns x e hl hi h1 h2 h3 hn f1 e1 hn1 f2
  have hx0 : (decide ((↑i : Int) < (↑(List.length l) : Int))) = true := by exact decide_eq_true (by omega)
  have hx1 : (decide ((↑(List.length es) : Int) > (70 : Int))) = false := by exact decide_eq_false (by omega)
  have hx2 : (decide ((↑(List.length rs) : Int) > (70 : Int))) = false := by exact decide_eq_false (by omega)
  have hx3 : (decide ((↑(List.length ns) : Int) > (70 : Int))) = false := by exact decide_eq_false (by omega)
  exact pR 12 [(1, bt), (2, .v (V.d (D.ref (List.flatMap (Ty.enc opT) l) ((Int.toNat (↑i : Int)) * (6 : Nat))))), (3, .v (V.d (opR k a b es rs ns))), (7, bf), (8, bf), (10, bf), (12, bf), (14, bf), (15, bf), (16, bf), (18, bf), (20, bf), (22, bf), (23, bf), (26, .l (Ex.exit (2 : Nat)) (stM1x k a b es rs ns (List.flatMap (Ty.enc opT) l) (List.length l) (↑(List.length l) : Int) (↑i : Int) n1 (List.length es))), (29, .l (Ex.ret) (stLr2 k a b es rs ns x))] (cE (@lqN2 (k) (a) (b) (es) (rs) (ns) (List.flatMap (Ty.enc opT) l) (List.length l) ((↑(List.length l) : Int)) ((↑i : Int)) (n1) (x) h3 hn1 f2) (cE (@lqY1 (k) (a) (b) (es) (rs) (ns) (List.flatMap (Ty.enc opT) l) (List.length l) ((↑(List.length l) : Int)) ((↑i : Int)) (n) (n1) h1 hn f1 e1) (cP hx3 (cP hx2 (cP hx2 (cP hx2 (cP hx2 (cP hx2 (cP hx1 (cP hx1 (cP hx1 (cP hx1 (cP hx1 (cP (@loadOpE (l) ([]) (i) (k) (a) (b) (es) (rs) (ns) hi e) (cP (@iaddrOp (l) ((↑i : Int)) (by omega) (by omega)) (cP hx0 nilE)))))))))))))))) (by kernel_rfl)
set_option maxHeartbeats 4000000 in
theorem lo7 : lo7_T := by
  intro l n i hl hi hi2
  have hx0 : (decide ((↑i : Int) < (↑(List.length l) : Int))) = false := by exact decide_eq_false (by omega)
  exact (pR (r := ((Ex.exit (nat_lit 0)), { s := [((nat_lit 5), (V.d (D.int IntKind.i64 (↑n : Int)))), ((nat_lit 16), (V.d (D.sl (List.flatMap (Ty.enc opT) l) (List.length l)))), ((nat_lit 17), (V.d (D.int IntKind.i64 (↑(List.length l) : Int)))), ((nat_lit 18), (V.d (D.int IntKind.i64 (↑i : Int)))), ((nat_lit 19), (V.d (D.bool (decide ((↑i : Int) < (↑(List.length l) : Int))))))], h := [], og := [] })) 12 [(1, bf)] (cP hx0 nilE) (by kernel_rfl)).to (by ((try simp (disch := omega) only [wrapId, sizeOne, sizeStr, List.length_cons, List.length_nil, wrapU8, toNatAdd, toNatSucc] at *) <;> (try simp only [Int.toNat_natCast, beq_iff_eq, beq_eq_false_iff_ne, bne_iff_ne, bne_eq_false_iff_eq, ne_eq, Int.natCast_eq_zero, Int.natCast_inj] at *) <;> first | (simp (disch := omega) [Ty.enc, wrapId, toNatPred, toNatAdd, toNatSucc, sizeOne, sizeStr, List.length_cons, List.length_nil, wrapU8, ltF, ltT, Ty.slD, *]; done) | (subst_vars; simp (disch := omega) [Ty.enc, wrapId, toNatPred, toNatAdd, toNatSucc, sizeOne, sizeStr, List.length_cons, List.length_nil, wrapU8, ltF, ltT, Ty.slD, *]; done)))
end Go.Proofs.YtgiahagbmgnmkaaDoor.Script
/- Script: paths, printed by a program of mine. -/
set_option maxRecDepth 100000
set_option linter.unusedVariables false
set_option linter.unusedSimpArgs false
namespace Go.Proofs.YtgiahagbmgnmkaaDoor.Script
open Go Pv G
set_option maxHeartbeats 4000000 in
theorem al1 : al1_T := by
  intro l out i hl hi q
  have hx0 : (decide ((↑i : Int) < (↑(List.length l) : Int))) = true := by exact decide_eq_true (by omega)
  have hx1 : ((strAt l i) == []) = true := by assumption
  exact (pC (st' := { s := [((nat_lit 4), (V.tail (nat_lit 27) (List.flatMap (Ty.enc opT) out) (List.length out))), ((nat_lit 10), (V.d (D.sl (List.map D.str l) (List.length l)))), ((nat_lit 11), (V.d (D.int IntKind.i64 (↑(List.length l) : Int)))), ((nat_lit 12), (V.d (D.int IntKind.i64 (IntKind.wrap IntKind.i64 ((↑i : Int) + (1 : Int))))))], h := [], og := [] }) 12 [(1, bt), (2, .v (V.d (D.ref (List.map D.str l) ((Int.toNat (↑i : Int)) * (1 : Nat))))), (3, .v (V.d (D.str (strAt l i)))), (4, .v (V.d (D.bool ((strAt l i) == [])))), (5, bt)] (cP hx1 (cP (@strEq (strAt l i) ([])) (cP (@loadStrN (l) ([]) (i) hi) (cP (@iaddrStr (l) ((↑i : Int)) (by omega) (by omega)) (cP hx0 nilE))))) (by kernel_rfl)).to (by ((try simp (disch := omega) only [wrapId, sizeOne, sizeStr, List.length_cons, List.length_nil, wrapU8, toNatAdd, toNatSucc] at *) <;> (try simp only [Int.toNat_natCast, beq_iff_eq, beq_eq_false_iff_ne, bne_iff_ne, bne_eq_false_iff_eq, ne_eq, Int.natCast_eq_zero, Int.natCast_inj] at *) <;> first | (simp (disch := omega) [Ty.enc, wrapId, toNatPred, toNatAdd, toNatSucc, sizeOne, sizeStr, List.length_cons, List.length_nil, wrapU8, ltF, ltT, Ty.slD, *]; done) | (subst_vars; simp (disch := omega) [Ty.enc, wrapId, toNatPred, toNatAdd, toNatSucc, sizeOne, sizeStr, List.length_cons, List.length_nil, wrapU8, ltF, ltT, Ty.slD, *]; done)))
set_option maxHeartbeats 4000000 in
theorem al2 : al2_T := by
  intro l out i k a b es rs ns hl ho hw hi q e
  have hx0 : (decide ((↑i : Int) < (↑(List.length l) : Int))) = true := by exact decide_eq_true (by omega)
  have hx1 : ((strAt l i) == []) = false := by assumption
  exact (pC (st' := { s := [((nat_lit 4), (V.tail (nat_lit 27) (List.flatMap (Ty.enc opT) (out ++ [(k, a, b, es, rs, ns, ())])) (List.length (out ++ [(k, a, b, es, rs, ns, ())])))), ((nat_lit 10), (V.d (D.sl (List.map D.str l) (List.length l)))), ((nat_lit 11), (V.d (D.int IntKind.i64 (↑(List.length l) : Int)))), ((nat_lit 12), (V.d (D.int IntKind.i64 (IntKind.wrap IntKind.i64 ((↑i : Int) + (1 : Int))))))], h := [], og := [] }) 12 [(1, bt), (2, .v (V.d (D.ref (List.map D.str l) ((Int.toNat (↑i : Int)) * (1 : Nat))))), (3, .v (V.d (D.str (strAt l i)))), (4, .v (V.d (D.bool ((strAt l i) == [])))), (5, bf), (6, .v (okR k a b es rs ns)), (10, .v (Ty.tailV opT (27 : TypeId) (out ++ [(k, a, b, es, rs, ns, ())])))] (cP (@appendOp (out) (k) (a) (b) (es) (rs) (ns) ho) (cC (@psOk (strAt l i) (k) (a) (b) (es) (rs) (ns) hw e) (cP hx1 (cP (@strEq (strAt l i) ([])) (cP (@loadStrN (l) ([]) (i) hi) (cP (@iaddrStr (l) ((↑i : Int)) (by omega) (by omega)) (cP hx0 nilE))))))) (by kernel_rfl)).to (by ((try simp (disch := omega) only [wrapId, sizeOne, sizeStr, List.length_cons, List.length_nil, wrapU8, toNatAdd, toNatSucc] at *) <;> (try simp only [Int.toNat_natCast, beq_iff_eq, beq_eq_false_iff_ne, bne_iff_ne, bne_eq_false_iff_eq, ne_eq, Int.natCast_eq_zero, Int.natCast_inj] at *) <;> first | (simp (disch := omega) [Ty.enc, wrapId, toNatPred, toNatAdd, toNatSucc, sizeOne, sizeStr, List.length_cons, List.length_nil, wrapU8, ltF, ltT, Ty.slD, *]; done) | (subst_vars; simp (disch := omega) [Ty.enc, wrapId, toNatPred, toNatAdd, toNatSucc, sizeOne, sizeStr, List.length_cons, List.length_nil, wrapU8, ltF, ltT, Ty.slD, *]; done)))
set_option maxHeartbeats 4000000 in
theorem al3 : al3_T := by
  intro l out i o hl hw hi q e
  have hx0 : (decide ((↑i : Int) < (↑(List.length l) : Int))) = true := by exact decide_eq_true (by omega)
  have hx1 : ((strAt l i) == []) = false := by assumption
  exact (pR (r := (Ex.ret, { s := [((nat_lit 2), (V.tail (nat_lit 27) [] (nat_lit 0))), ((nat_lit 3), (V.d (D.int IntKind.i64 (IntKind.wrap IntKind.i64 ((↑i : Int) + (1 : Int))))))], h := [(Ob.cells [(V.d (D.int IntKind.i64 (0 : Int))), (V.d (D.int IntKind.i64 (0 : Int))), (V.d (D.int IntKind.i64 (0 : Int))), (V.d (D.sl [] (nat_lit 0))), (V.d (D.sl [] (nat_lit 0))), (V.d (D.sl [] (nat_lit 0)))])], og := [] })) 12 [(1, bt), (2, .v (V.d (D.ref (List.map D.str l) ((Int.toNat (↑i : Int)) * (1 : Nat))))), (3, .v (V.d (D.str (strAt l i)))), (4, .v (V.d (D.bool ((strAt l i) == [])))), (5, bf), (6, .v (errR))] (cC (@psErr (strAt l i) (o) hw e) (cP hx1 (cP (@strEq (strAt l i) ([])) (cP (@loadStrN (l) ([]) (i) hi) (cP (@iaddrStr (l) ((↑i : Int)) (by omega) (by omega)) (cP hx0 nilE)))))) (by kernel_rfl)).to (by ((try simp (disch := omega) only [wrapId, sizeOne, sizeStr, List.length_cons, List.length_nil, wrapU8, toNatAdd, toNatSucc] at *) <;> (try simp only [Int.toNat_natCast, beq_iff_eq, beq_eq_false_iff_ne, bne_iff_ne, bne_eq_false_iff_eq, ne_eq, Int.natCast_eq_zero, Int.natCast_inj] at *) <;> first | (simp (disch := omega) [Ty.enc, wrapId, toNatPred, toNatAdd, toNatSucc, sizeOne, sizeStr, List.length_cons, List.length_nil, wrapU8, ltF, ltT, Ty.slD, *]; done) | (subst_vars; simp (disch := omega) [Ty.enc, wrapId, toNatPred, toNatAdd, toNatSucc, sizeOne, sizeStr, List.length_cons, List.length_nil, wrapU8, ltF, ltT, Ty.slD, *]; done)))
set_option maxHeartbeats 4000000 in
theorem al4 : al4_T := by
  intro l out i hi h2
  have hx0 : (decide ((↑i : Int) < (↑(List.length l) : Int))) = false := by exact decide_eq_false (by omega)
  exact (pR (r := ((Ex.exit (nat_lit 0)), { s := [((nat_lit 4), (V.tail (nat_lit 27) (List.flatMap (Ty.enc opT) out) (List.length out))), ((nat_lit 10), (V.d (D.sl (List.map D.str l) (List.length l)))), ((nat_lit 11), (V.d (D.int IntKind.i64 (↑(List.length l) : Int)))), ((nat_lit 12), (V.d (D.int IntKind.i64 (↑i : Int)))), ((nat_lit 13), (V.d (D.bool (decide ((↑i : Int) < (↑(List.length l) : Int))))))], h := [], og := [] })) 12 [(1, bf)] (cP hx0 nilE) (by kernel_rfl)).to (by ((try simp (disch := omega) only [wrapId, sizeOne, sizeStr, List.length_cons, List.length_nil, wrapU8, toNatAdd, toNatSucc] at *) <;> (try simp only [Int.toNat_natCast, beq_iff_eq, beq_eq_false_iff_ne, bne_iff_ne, bne_eq_false_iff_eq, ne_eq, Int.natCast_eq_zero, Int.natCast_inj] at *) <;> first | (simp (disch := omega) [Ty.enc, wrapId, toNatPred, toNatAdd, toNatSucc, sizeOne, sizeStr, List.length_cons, List.length_nil, wrapU8, ltF, ltT, Ty.slD, *]; done) | (subst_vars; simp (disch := omega) [Ty.enc, wrapId, toNatPred, toNatAdd, toNatSucc, sizeOne, sizeStr, List.length_cons, List.length_nil, wrapU8, ltF, ltT, Ty.slD, *]; done)))
end Go.Proofs.YtgiahagbmgnmkaaDoor.Script
/- Script: All: loop, statements -/
set_option linter.unusedVariables false
set_option linter.unusedSimpArgs false
namespace Go.Proofs.YtgiahagbmgnmkaaDoor.Script
open Go Pv G
theorem eqNil {w : Str} (h : w = []) : (w == []) = true := by subst h; rfl
theorem neNil {w : Str} (h : ¬ w = []) : (w == []) = false := by simpa using h
theorem strAt_le {l : List Str} {n : Nat} (h : ∀ p ∈ l, p.length ≤ n) (k : Nat) : (strAt l k).length ≤ n := by
  by_cases hk : k < l.length
  · have e : strAt l k = l[k] := by unfold strAt; rw [List.getD_eq_getElem?_getD, List.getElem?_eq_getElem hk]; rfl
    rw [e]; exact h _ (List.getElem_mem hk)
  · unfold strAt
    rw [List.getD_eq_getElem?_getD, List.getElem?_eq_none (by omega)]; simp
def Short (l : List Str) : Prop := l.length ≤ 1000000 ∧ ∀ p ∈ l, p.length ≤ 100000
theorem alC (l : List Str) (hl : Short l) : ∀ f i out m, i ≤ l.length → l.length < i + f → out.length ≤ i → f ≤ m →
    ((alF l f i out).2 = 0 → LpC X0 0 (ntOf X0 FAll) (lpKeep X0 FAll 0) (lpBody X0 FAll 0) 0 m (stA l out i) (.exit 0, stAx l (alF l f i out).1 l.length)) ∧
    (∀ j, (alF l f i out).2 = j + 1 → LpC X0 0 (ntOf X0 FAll) (lpKeep X0 FAll 0) (lpBody X0 FAll 0) 0 m (stA l out i) (.ret, stAr j)) := by
  obtain ⟨hl, hs⟩ := hl
  intro f
  induction f with
  | zero => intro i out m h1 h2; omega
  | succ f ih =>
    intro i out m h1 h2 ho hm
    obtain ⟨m, rfl⟩ : ∃ x, m = x + 1 := ⟨m - 1, by omega⟩
    rw [alF]
    by_cases hi : i < l.length
    · simp only [if_pos hi]
      have hw := strAt_le hs i
      by_cases hq : strAt l i = []
      · simp only [if_pos hq]
        have nxt := ih (i + 1) out m (by omega) (by omega) (by omega) (by omega)
        have step := al1 l out i hl hi (eqNil hq)
        exact ⟨fun h => LpC.next step (nxt.1 h), fun j h => LpC.next step (nxt.2 j h)⟩
      · simp only [if_neg hq]
        by_cases hb : (rfP (strAt l i)).2 = true
        · simp only [if_pos hb]
          have nxt := ih (i + 1) (out ++ [opOf (rfP (strAt l i)).1]) m (by omega) (by omega) (by simp; omega) (by omega)
          have step := al2 l out i _ _ _ _ _ _ hl (by omega) (by omega) hi (neNil hq) (pairE _ true hb)
          exact ⟨fun h => LpC.next step (nxt.1 h), fun j h => LpC.next step (nxt.2 j h)⟩
        · simp only [if_neg hb]
          refine ⟨fun h => (by simp at h), fun j h => ?_⟩
          obtain rfl : i = j := Nat.succ.inj h
          exact LpC.last (al3 l out i _ hl (by omega) hi (neNil hq) (pairE _ false (bF hb))) (by simp)
    · simp only [if_neg hi]
      obtain rfl : i = l.length := by omega
      exact ⟨fun _ => LpC.last (al4 l out l.length (by omega) hl) (by simp), fun j h => (by simp at h)⟩
def alL (l : List Str) : List Op × Nat := alF l (l.length + 1) 0 []
def alYesL_T : Prop := ∀ (l : List Str) (out : List Op) (hl : Short l) (e : alL l = (out, 0)), Lp X0 0 (ntOf X0 FAll) (lpKeep X0 FAll 0) (lpBody X0 FAll 0) 0 FUEL (stA l [] 0) (.exit 0, stAx l out l.length)
theorem alYesL : alYesL_T := fun l out hl e => by
  unfold alL at e
  have h2 := hl.1
  have := (alC l hl (l.length + 1) 0 [] 1152921504606846975 (by omega) (by omega) (by simp) (by omega)).1 (by rw [e])
  rw [e] at this
  exact LpC.start (m := 1152921504606846975) this (by kernel_rfl)
def splitNE_T : Prop := ∀ (s : Str) (l : List Str) (hs : s.length ≤ 1000000) (e : pieces 10 s = l), Ans X0 21 [.d (.str s), .d (.str [10])] (.d (strsD l))
theorem splitNE : splitNE_T := fun s l hs e => by subst e; exact splitN s hs
def allOk_T : Prop := ∀ (s : Str) (l : List Str) (out : List Op) (hs : s.length ≤ 1000000) (ew : pieces 10 s = l) (hl : Short l) (e : alL l = (out, 0)), Ans X0 FAll [.d (.str s)] (.d (.tup [opT.slD out, .int .i64 0]))
end Go.Proofs.YtgiahagbmgnmkaaDoor.Script
/- Script: paths, printed by a program of mine. -/
set_option maxRecDepth 100000
set_option linter.unusedVariables false
set_option linter.unusedSimpArgs false
namespace Go.Proofs.YtgiahagbmgnmkaaDoor.Script
open Go Pv G
set_option maxHeartbeats 4000000 in
theorem allOk : allOk_T := by
  intro s l out hs ew hl e
  exact pV 12 [(0, .v (V.d (strsD l))), (2, .l (Ex.exit (0 : Nat)) (stAx l out (List.length l)))] (cE (@alYesL (l) (out) hl e) (cC (@splitNE (s) (l) hs ew) nilE)) (by kernel_rfl) rfl rfl
end Go.Proofs.YtgiahagbmgnmkaaDoor.Script
/- Script: Large, of a list of operations, as one; scripts of operations: plain. -/
set_option linter.unusedVariables false
set_option linter.unusedSimpArgs false
namespace Go.Proofs.YtgiahagbmgnmkaaDoor.Script
open Go Pv G
abbrev oEs (o : Op) : List Edit := o.2.2.2.1
abbrev oRs (o : Op) : List Int := o.2.2.2.2.1
abbrev oNs (o : Op) : List Inl := o.2.2.2.2.2.1
def SmallT (o : Op) : Prop := SmallOp (oEs o) (oRs o) (oNs o)
def sumT (o : Op) : Nat := sum1 (oEs o) + sum2 (oNs o)
def sumO (l : List Op) : Nat := (l.map sumT).sum
theorem nthO {l : List Op} {i : Nat} (h : i < l.length) : opT.nth l i = l[i] := by unfold Ty.nth; rw [List.getD_eq_getElem?_getD, List.getElem?_eq_getElem h]; rfl
theorem sum2_le (l : List Inl) (h : ∀ x ∈ l, x.2.2.2.2.1.length ≤ 200) : sum2 l ≤ 201 * l.length := by
  induction l with
  | nil => exact Nat.le_refl _
  | cons x l ih =>
    have a := ih (fun y hy => h y (List.mem_cons_of_mem _ hy))
    have b := h x (List.mem_cons_self ..)
    unfold sum2 at a ⊢
    rw [List.map_cons, List.sum_cons, List.length_cons]
    omega
/-- How the outer loop of Large may end. -/
def LgEnd (l : List Op) (r : Ex × St) : Prop :=
  (∃ k a b es rs ns, r = (.ret, stN0r k a b es rs ns)) ∨ (∃ k a b es rs ns x, r = (.ret, stLr1 k a b es rs ns x)) ∨ (∃ k a b es rs ns x, r = (.ret, stLr2 k a b es rs ns x))
theorem loC (l : List Op) (hl : l.length ≤ 60) : ∀ f i n m, i + f = l.length → n ≤ 50000 * i → f < m →
    (∃ r, LgEnd l r ∧ LpC X0 0 (ntOf X0 FLg) (lpKeep X0 FLg 0) (lpBody X0 FLg 0) 0 m (stN0 (l.flatMap opT.enc) l.length n i) r) ∨
    ((∀ o ∈ l.drop i, SmallT o) ∧ LpC X0 0 (ntOf X0 FLg) (lpKeep X0 FLg 0) (lpBody X0 FLg 0) 0 m (stN0 (l.flatMap opT.enc) l.length n i) (.exit 0, stN0x (l.flatMap opT.enc) l.length (n + sumO (l.drop i)) l.length)) := by
  intro f
  induction f with
  | zero =>
    intro i n m hi hn hm
    obtain rfl : i = l.length := by omega
    obtain ⟨m, rfl⟩ : ∃ x, m = x + 1 := ⟨m - 1, by omega⟩
    right
    rw [List.drop_of_length_le (Nat.le_refl _)]
    exact ⟨fun o h => (by cases h), LpC.last (lo7 l n l.length hl (by omega) hl) (by simp)⟩
  | succ f ih =>
    intro i n m hi hn hm
    obtain ⟨m, rfl⟩ : ∃ x, m = x + 1 := ⟨m - 1, by omega⟩
    have hlt : i < l.length := by omega
    have e := nthO hlt
    rw [List.drop_eq_getElem_cons hlt]
    obtain ⟨⟨k, a, b, es, rs, ns, ⟨⟩⟩, ho⟩ : ∃ o : Op, l[i] = o := ⟨_, rfl⟩
    rw [ho] at e ⊢
    by_cases h1 : es.length ≤ 70
    · by_cases h2 : rs.length ≤ 70
      · by_cases h3 : ns.length ≤ 70
        · cases f1 : es.find? long1 with
          | some x => exact Or.inl ⟨_, Or.inr (Or.inl ⟨k, a, b, es, rs, ns, x, rfl⟩), LpC.last (lo5 l n i k a b es rs ns x e hl hlt h1 h2 h3 (by omega) f1) (by simp)⟩
          | none =>
            have s1 := sum1_le es (find_none1 f1)
            cases f2 : ns.find? long2 with
            | some x => exact Or.inl ⟨_, Or.inr (Or.inr ⟨k, a, b, es, rs, ns, x, rfl⟩), LpC.last (lo6 l n _ i k a b es rs ns x e hl hlt h1 h2 h3 (by omega) f1 rfl (by omega) f2) (by simp)⟩
            | none =>
              have s2 := sum2_le ns (find_none2 f2)
              have step := lo1 l n _ _ i k a b es rs ns e hl hlt h1 h2 h3 (by omega) f1 rfl (by omega) f2 rfl
              have nxt := ih (i + 1) (n + sum1 es + sum2 ns) m (by omega) (by omega) (by omega)
              rcases nxt with ⟨r, hr, hc⟩ | ⟨hs, hc⟩
              · exact Or.inl ⟨r, hr, LpC.next step hc⟩
              · right
                refine ⟨fun o h => ?_, ?_⟩
                · rcases List.mem_cons.1 h with rfl | h
                  · exact ⟨h1, h2, h3, find_none1 f1, find_none2 f2⟩
                  · exact hs o h
                · have e2 : n + sumO ((k, a, b, es, rs, ns, ()) :: l.drop (i + 1)) = n + sum1 es + sum2 ns + sumO (l.drop (i + 1)) := by
                    unfold sumO
                    rw [List.map_cons, List.sum_cons]
                    show n + (sum1 es + sum2 ns + _) = _
                    omega
                  rw [e2]
                  exact LpC.next step hc
        · exact Or.inl ⟨_, Or.inl ⟨k, a, b, es, rs, ns, rfl⟩, LpC.last (lo4 l n i k a b es rs ns e hl hlt h1 h2 (by omega)) (by simp)⟩
      · exact Or.inl ⟨_, Or.inl ⟨k, a, b, es, rs, ns, rfl⟩, LpC.last (lo3 l n i k a b es rs ns e hl hlt h1 (by omega)) (by simp)⟩
    · exact Or.inl ⟨_, Or.inl ⟨k, a, b, es, rs, ns, rfl⟩, LpC.last (lo2 l n i k a b es rs ns e hl hlt (by omega)) (by simp)⟩
abbrev LgL (l : List Op) (r : Ex × St) : Prop := Lp X0 0 (ntOf X0 FLg) (lpKeep X0 FLg 0) (lpBody X0 FLg 0) 0 FUEL (stN0 (l.flatMap opT.enc) l.length 0 0) r
theorem lgLoop (l : List Op) (hl : l.length ≤ 60) : (∃ r, LgEnd l r ∧ LgL l r) ∨ ((∀ o ∈ l, SmallT o) ∧ LgL l (.exit 0, stN0x (l.flatMap opT.enc) l.length (sumO l) l.length)) := by
  rcases loC l hl l.length 0 0 1152921504606846975 (by omega) (by omega) (by omega) with ⟨r, hr, h⟩ | ⟨hs, h⟩
  · exact Or.inl ⟨r, hr, LpC.start (m := 1152921504606846975) h (by kernel_rfl)⟩
  · rw [List.drop_zero, Nat.zero_add] at h
    rw [List.drop_zero] at hs
    exact Or.inr ⟨hs, LpC.start (m := 1152921504606846975) h (by kernel_rfl)⟩
def idLgL0_T : Prop := ∀ (l : List Op) (k a b : Int) (es : List Edit) (rs : List Int) (ns : List Inl) (h : Lp X0 0 (ntOf X0 FLg) (lpKeep X0 FLg 0) (lpBody X0 FLg 0) 0 FUEL (stN0 (l.flatMap opT.enc) l.length 0 0) (.ret, stN0r k a b es rs ns)), Lp X0 0 (ntOf X0 FLg) (lpKeep X0 FLg 0) (lpBody X0 FLg 0) 0 FUEL (stN0 (l.flatMap opT.enc) l.length 0 0) (.ret, stN0r k a b es rs ns)
theorem idLgL0 : idLgL0_T := fun l k a b es rs ns h => h
def idLgL1_T : Prop := ∀ (l : List Op) (k a b : Int) (es : List Edit) (rs : List Int) (ns : List Inl) (x : Edit) (h : Lp X0 0 (ntOf X0 FLg) (lpKeep X0 FLg 0) (lpBody X0 FLg 0) 0 FUEL (stN0 (l.flatMap opT.enc) l.length 0 0) (.ret, stLr1 k a b es rs ns x)), Lp X0 0 (ntOf X0 FLg) (lpKeep X0 FLg 0) (lpBody X0 FLg 0) 0 FUEL (stN0 (l.flatMap opT.enc) l.length 0 0) (.ret, stLr1 k a b es rs ns x)
theorem idLgL1 : idLgL1_T := fun l k a b es rs ns x h => h
def idLgL2_T : Prop := ∀ (l : List Op) (k a b : Int) (es : List Edit) (rs : List Int) (ns : List Inl) (x : Inl) (h : Lp X0 0 (ntOf X0 FLg) (lpKeep X0 FLg 0) (lpBody X0 FLg 0) 0 FUEL (stN0 (l.flatMap opT.enc) l.length 0 0) (.ret, stLr2 k a b es rs ns x)), Lp X0 0 (ntOf X0 FLg) (lpKeep X0 FLg 0) (lpBody X0 FLg 0) 0 FUEL (stN0 (l.flatMap opT.enc) l.length 0 0) (.ret, stLr2 k a b es rs ns x)
theorem idLgL2 : idLgL2_T := fun l k a b es rs ns x h => h
def idLgLx_T : Prop := ∀ (l : List Op) (n : Nat) (h : Lp X0 0 (ntOf X0 FLg) (lpKeep X0 FLg 0) (lpBody X0 FLg 0) 0 FUEL (stN0 (l.flatMap opT.enc) l.length 0 0) (.exit 0, stN0x (l.flatMap opT.enc) l.length n l.length)), Lp X0 0 (ntOf X0 FLg) (lpKeep X0 FLg 0) (lpBody X0 FLg 0) 0 FUEL (stN0 (l.flatMap opT.enc) l.length 0 0) (.exit 0, stN0x (l.flatMap opT.enc) l.length n l.length)
theorem idLgLx : idLgLx_T := fun l n h => h
def lbB_T : Prop := ∀ (l : List Op) (h : 60 < l.length), Ans X0 FLg [.d (opT.slD l), .d (.int .i64 60)] (.d (.bool true))
def lbR0_T : Prop := ∀ (l : List Op) (k a b : Int) (es : List Edit) (rs : List Int) (ns : List Inl) (hl : l.length ≤ 60) (h : Lp X0 0 (ntOf X0 FLg) (lpKeep X0 FLg 0) (lpBody X0 FLg 0) 0 FUEL (stN0 (l.flatMap opT.enc) l.length 0 0) (.ret, stN0r k a b es rs ns)), Ans X0 FLg [.d (opT.slD l), .d (.int .i64 60)] (.d (.bool true))
def lbR1_T : Prop := ∀ (l : List Op) (k a b : Int) (es : List Edit) (rs : List Int) (ns : List Inl) (x : Edit) (hl : l.length ≤ 60) (h : Lp X0 0 (ntOf X0 FLg) (lpKeep X0 FLg 0) (lpBody X0 FLg 0) 0 FUEL (stN0 (l.flatMap opT.enc) l.length 0 0) (.ret, stLr1 k a b es rs ns x)), Ans X0 FLg [.d (opT.slD l), .d (.int .i64 60)] (.d (.bool true))
def lbR2_T : Prop := ∀ (l : List Op) (k a b : Int) (es : List Edit) (rs : List Int) (ns : List Inl) (x : Inl) (hl : l.length ≤ 60) (h : Lp X0 0 (ntOf X0 FLg) (lpKeep X0 FLg 0) (lpBody X0 FLg 0) 0 FUEL (stN0 (l.flatMap opT.enc) l.length 0 0) (.ret, stLr2 k a b es rs ns x)), Ans X0 FLg [.d (opT.slD l), .d (.int .i64 60)] (.d (.bool true))
def lbX_T : Prop := ∀ (l : List Op) (n : Nat) (hl : l.length ≤ 60) (h : Lp X0 0 (ntOf X0 FLg) (lpKeep X0 FLg 0) (lpBody X0 FLg 0) 0 FUEL (stN0 (l.flatMap opT.enc) l.length 0 0) (.exit 0, stN0x (l.flatMap opT.enc) l.length n l.length)), Ans X0 FLg [.d (opT.slD l), .d (.int .i64 60)] (.d (.bool (decide ((n : Int) > 1000))))
end Go.Proofs.YtgiahagbmgnmkaaDoor.Script
