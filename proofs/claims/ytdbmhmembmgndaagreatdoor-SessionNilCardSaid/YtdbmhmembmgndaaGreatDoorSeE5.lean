/- Lemmas for the law SessionNilLaw: texts of mine, merged. -/
import Derived.Test.YtdbmhmembmgndaaGreatDoorMSessionNilLaw3
set_option maxRecDepth 1000000
set_option linter.unusedVariables false
set_option maxHeartbeats 4000000
namespace Go.Proofs.YtdbmhmembmgndaaGreatDoor.Pv
open Go G
theorem se_e39:Ans X2 300 (se_a39.map V.d) se_v39:=ansAt 60 fun n=>by kernel_rfl
theorem se_e40:Ans X2 308 (se_a40.map V.d) se_v40:=ansAt 60 fun n=>by kernel_rfl
theorem se_e41:Ans seM4 227 (se_a41.map V.d) se_v41:=ansAt 60 fun n=>by kernel_rfl
theorem se_e42:Ans X2 293 (se_a42.map V.d) se_v42:=ansAt 60 fun n=>by kernel_rfl
theorem se_e43:Ans X2 292 (se_a43.map V.d) se_v43:=ansAt 60 fun n=>by kernel_rfl
theorem se_e44:Ans seM2 213 (se_a44.map V.d) se_v44:=ansAt 60 fun n=>by kernel_rfl
theorem se_e45:Ans X2 293 (se_a45.map V.d) se_v45:=ansAt 60 fun n=>by kernel_rfl
theorem se_e46:Ans X2 292 (se_a46.map V.d) se_v46:=ansAt 60 fun n=>by kernel_rfl
theorem se_e47:Ans seM2 109 (se_a47.map V.d) se_v47:=ansAt 60 fun n=>by kernel_rfl
theorem se_e48:Ans seM3 213 (se_a48.map V.d) se_v48:=ansAt 60 fun n=>by kernel_rfl
end Go.Proofs.YtdbmhmembmgndaaGreatDoor.Pv
