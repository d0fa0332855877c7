/- Lemmas for the law SessionNilLaw: texts of mine, merged. -/
import Derived.Test.YtdbmhmembmgndaaGreatDoorMSessionNilLaw3
set_option maxRecDepth 1000000
set_option linter.unusedVariables false
set_option maxHeartbeats 4000000
namespace Go.Proofs.YtdbmhmembmgndaaGreatDoor.Pv
open Go G
theorem se_e49:Ans seM5 164 (se_a49.map V.d) se_v49:=ansAt 60 fun n=>by kernel_rfl
theorem se_e50:Ans seM6 94 (se_a50.map V.d) se_v50:=ansAt 60 fun n=>by kernel_rfl
theorem se_e51:Ans X2 56 (se_a51.map V.d) se_v51:=ansAt 60 fun n=>by kernel_rfl
theorem se_e52:Ans seM3 31 (se_a52.map V.d) se_v52:=ansAt 60 fun n=>by kernel_rfl
theorem se_e53:Ans X2 110 (se_a53.map V.d) se_v53:=ansAt 60 fun n=>by kernel_rfl
theorem se_e54:Ans seM4 11 (se_a54.map V.d) se_v54:=ansAt 60 fun n=>by kernel_rfl
theorem se_e55:Ans X2 157 (se_a55.map V.d) se_v55:=ansAt 60 fun n=>by kernel_rfl
theorem se_e56:Ans X2 300 (se_a56.map V.d) se_v56:=ansAt 60 fun n=>by kernel_rfl
end Go.Proofs.YtdbmhmembmgndaaGreatDoor.Pv
