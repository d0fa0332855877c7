/- Lemmas for the law SessionNilLaw: texts of mine, merged. -/
import Derived.Test.YtdbmhmembmgndaaGreatDoorMSessionNilLaw3
set_option maxRecDepth 1000000
set_option linter.unusedVariables false
set_option maxHeartbeats 4000000
namespace Go.Proofs.YtdbmhmembmgndaaGreatDoor.Pv
open Go G
theorem se_e63:Ans X2 371 (se_a63.map V.d) se_v63:=ansAt 60 fun n=>by kernel_rfl
theorem se_e64:Ans seM1 348 (se_a64.map V.d) se_v64:=ansAt 60 fun n=>by kernel_rfl
theorem se_e65:Ans X2 56 (se_a65.map V.d) se_v65:=ansAt 60 fun n=>by kernel_rfl
theorem se_e66:Ans X2 103 (se_a66.map V.d) se_v66:=ansAt 60 fun n=>by kernel_rfl
theorem se_e67:Ans seM1 56 (se_a67.map V.d) se_v67:=ansAt 60 fun n=>by kernel_rfl
theorem se_e68:Ans seM2 305 (se_a68.map V.d) se_v68:=ansAt 60 fun n=>by kernel_rfl
theorem se_e69:Ans seM2 306 (se_a69.map V.d) se_v69:=ansAt 60 fun n=>by kernel_rfl
theorem se_e70:Ans X2 300 (se_a70.map V.d) se_v70:=ansAt 60 fun n=>by kernel_rfl
theorem se_e71:Ans X2 308 (se_a71.map V.d) se_v71:=ansAt 60 fun n=>by kernel_rfl
end Go.Proofs.YtdbmhmembmgndaaGreatDoor.Pv
