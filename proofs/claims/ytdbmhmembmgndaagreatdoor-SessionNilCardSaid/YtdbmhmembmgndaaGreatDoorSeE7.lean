/- Lemmas for the law SessionNilLaw: texts of mine, merged. -/
import Derived.Test.YtdbmhmembmgndaaGreatDoorMSessionNilLaw3
set_option maxRecDepth 1000000
set_option linter.unusedVariables false
set_option maxHeartbeats 4000000
namespace Go.Proofs.YtdbmhmembmgndaaGreatDoor.Pv
open Go G
theorem se_e57:Ans seM1 220 (se_a57.map V.d) se_v57:=ansAt 60 fun n=>by kernel_rfl
theorem se_e58:Ans seM2 160 (se_a58.map V.d) se_v58:=ansAt 60 fun n=>by kernel_rfl
theorem se_e59:Ans X2 161 (se_a59.map V.d) se_v59:=ansAt 60 fun n=>by kernel_rfl
theorem se_e60:Ans X2 162 (se_a60.map V.d) se_v60:=ansAt 60 fun n=>by kernel_rfl
theorem se_e61:Ans X2 300 (se_a61.map V.d) se_v61:=ansAt 60 fun n=>by kernel_rfl
theorem se_e62:Ans seM1 347 (se_a62.map V.d) se_v62:=ansAt 60 fun n=>by kernel_rfl
end Go.Proofs.YtdbmhmembmgndaaGreatDoor.Pv
