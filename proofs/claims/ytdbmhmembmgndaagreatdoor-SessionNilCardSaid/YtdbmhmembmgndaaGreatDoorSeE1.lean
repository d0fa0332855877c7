/- Lemmas for the law SessionNilLaw: texts of mine, merged. -/
import Derived.Test.YtdbmhmembmgndaaGreatDoorMSessionNilLaw3
set_option maxRecDepth 1000000
set_option linter.unusedVariables false
set_option maxHeartbeats 4000000
namespace Go.Proofs.YtdbmhmembmgndaaGreatDoor.Pv
open Go G
theorem se_e9:Ans seM1 109 (se_a9.map V.d) se_v9:=ansAt 60 fun n=>by kernel_rfl
theorem se_e10:Ans seM2 31 (se_a10.map V.d) se_v10:=ansAt 60 fun n=>by kernel_rfl
theorem se_e11:Ans X2 32 (se_a11.map V.d) se_v11:=ansAt 60 fun n=>by kernel_rfl
theorem se_e12:Ans X2 112 (se_a12.map V.d) se_v12:=ansAt 60 fun n=>by kernel_rfl
theorem se_e13:Ans X2 45 (se_a13.map V.d) se_v13:=ansAt 60 fun n=>by kernel_rfl
theorem se_e14:Ans X2 231 (se_a14.map V.d) se_v14:=ansAt 60 fun n=>by kernel_rfl
theorem se_e15:Ans X2 231 (se_a15.map V.d) se_v15:=ansAt 60 fun n=>by kernel_rfl
theorem se_e16:Ans X2 157 (se_a16.map V.d) se_v16:=ansAt 60 fun n=>by kernel_rfl
theorem se_e17:Ans X2 300 (se_a17.map V.d) se_v17:=ansAt 60 fun n=>by kernel_rfl
end Go.Proofs.YtdbmhmembmgndaaGreatDoor.Pv
