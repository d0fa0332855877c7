/- Lemmas for the law SessionNilLaw: texts of mine, merged. -/
import Derived.Test.YtdbmhmembmgndaaGreatDoorMSessionNilLaw3
set_option maxRecDepth 1000000
set_option linter.unusedVariables false
set_option maxHeartbeats 4000000
namespace Go.Proofs.YtdbmhmembmgndaaGreatDoor.Pv
open Go G
theorem se_e23:Ans seM1 347 (se_a23.map V.d) se_v23:=ansAt 60 fun n=>by kernel_rfl
theorem se_e24:Ans X2 349 (se_a24.map V.d) se_v24:=ansAt 60 fun n=>by kernel_rfl
theorem se_e25:Ans X2 349 (se_a25.map V.d) se_v25:=ansAt 60 fun n=>by kernel_rfl
theorem se_e26:Ans X2 371 (se_a26.map V.d) se_v26:=ansAt 60 fun n=>by kernel_rfl
theorem se_e27:Ans seM1 348 (se_a27.map V.d) se_v27:=ansAt 60 fun n=>by kernel_rfl
theorem se_e28:Ans seM1 351 (se_a28.map V.d) se_v28:=ansAt 60 fun n=>by kernel_rfl
theorem se_e29:Ans X2 112 (se_a29.map V.d) se_v29:=ansAt 60 fun n=>by kernel_rfl
end Go.Proofs.YtdbmhmembmgndaaGreatDoor.Pv
