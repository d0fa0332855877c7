/- Lemmas for the law SessionNilLaw: texts of mine, merged. -/
import Derived.Test.YtdbmhmembmgndaaGreatDoorMSessionNilLaw3
set_option maxRecDepth 1000000
set_option linter.unusedVariables false
set_option maxHeartbeats 4000000
namespace Go.Proofs.YtdbmhmembmgndaaGreatDoor.Pv
open Go G
theorem se_e0:Ans X2 76 (se_a0.map V.d) se_v0:=ansAt 60 fun n=>by kernel_rfl
theorem se_e1:Ans X2 131 (se_a1.map V.d) se_v1:=ansAt 60 fun n=>by kernel_rfl
theorem se_e2:Ans X2 248 (se_a2.map V.d) se_v2:=ansAt 60 fun n=>by kernel_rfl
theorem se_e3:Ans seM1 207 (se_a3.map V.d) se_v3:=ansAt 60 fun n=>by kernel_rfl
theorem se_e4:Ans X2 134 (se_a4.map V.d) se_v4:=ansAt 60 fun n=>by kernel_rfl
theorem se_e5:Ans seM2 79 (se_a5.map V.d) se_v5:=ansAt 60 fun n=>by kernel_rfl
theorem se_e6:Ans X2 45 (se_a6.map V.d) se_v6:=ansAt 60 fun n=>by kernel_rfl
theorem se_e7:Ans X2 56 (se_a7.map V.d) se_v7:=ansAt 60 fun n=>by kernel_rfl
theorem se_e8:Ans X2 112 (se_a8.map V.d) se_v8:=ansAt 60 fun n=>by kernel_rfl
end Go.Proofs.YtdbmhmembmgndaaGreatDoor.Pv
