/- Lemmas for the law SessionNilLaw: texts of mine, merged. -/
import Derived.Test.YtdbmhmembmgndaaGreatDoorMSessionNilLaw3
set_option maxRecDepth 1000000
set_option linter.unusedVariables false
set_option maxHeartbeats 4000000
namespace Go.Proofs.YtdbmhmembmgndaaGreatDoor.Pv
open Go G
theorem se_e30:Ans X2 112 (se_a30.map V.d) se_v30:=ansAt 60 fun n=>by kernel_rfl
theorem se_e31:Ans seM1 351 (se_a31.map V.d) se_v31:=ansAt 60 fun n=>by kernel_rfl
theorem se_e32:Ans X2 103 (se_a32.map V.d) se_v32:=ansAt 60 fun n=>by kernel_rfl
theorem se_e33:Ans seM1 56 (se_a33.map V.d) se_v33:=ansAt 60 fun n=>by kernel_rfl
theorem se_e34:Ans seM2 305 (se_a34.map V.d) se_v34:=ansAt 60 fun n=>by kernel_rfl
theorem se_e35:Ans X2 248 (se_a35.map V.d) se_v35:=ansAt 60 fun n=>by kernel_rfl
theorem se_e36:Ans seM1 183 (se_a36.map V.d) se_v36:=ansAt 60 fun n=>by kernel_rfl
theorem se_e37:Ans seM2 207 (se_a37.map V.d) se_v37:=ansAt 60 fun n=>by kernel_rfl
theorem se_e38:Ans seM3 306 (se_a38.map V.d) se_v38:=ansAt 60 fun n=>by kernel_rfl
end Go.Proofs.YtdbmhmembmgndaaGreatDoor.Pv
