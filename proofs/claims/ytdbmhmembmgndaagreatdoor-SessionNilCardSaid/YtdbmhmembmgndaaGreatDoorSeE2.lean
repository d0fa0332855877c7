/- Lemmas for the law SessionNilLaw: texts of mine, merged. -/
import Derived.Test.YtdbmhmembmgndaaGreatDoorMSessionNilLaw3
set_option maxRecDepth 1000000
set_option linter.unusedVariables false
set_option maxHeartbeats 4000000
namespace Go.Proofs.YtdbmhmembmgndaaGreatDoor.Pv
open Go G
theorem se_e18:Ans seM1 220 (se_a18.map V.d) se_v18:=ansAt 60 fun n=>by kernel_rfl
theorem se_e19:Ans seM2 160 (se_a19.map V.d) se_v19:=ansAt 60 fun n=>by kernel_rfl
theorem se_e20:Ans X2 161 (se_a20.map V.d) se_v20:=ansAt 60 fun n=>by kernel_rfl
theorem se_e21:Ans X2 162 (se_a21.map V.d) se_v21:=ansAt 60 fun n=>by kernel_rfl
theorem se_e22:Ans X2 300 (se_a22.map V.d) se_v22:=ansAt 60 fun n=>by kernel_rfl
end Go.Proofs.YtdbmhmembmgndaaGreatDoor.Pv
