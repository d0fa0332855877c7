/- Lemmas for the law SessionNilLaw: texts of mine, merged. -/
import Derived.Test.YtdbmhmembmgndaaGreatDoorMSessionNilLaw3
set_option maxRecDepth 1000000
set_option linter.unusedVariables false
set_option maxHeartbeats 4000000
namespace Go.Proofs.YtdbmhmembmgndaaGreatDoor.Pv
open Go G
theorem se_e72:Ans seM3 227 (se_a72.map V.d) se_v72:=ansAt 60 fun n=>by kernel_rfl
theorem se_e73:Ans seM4 164 (se_a73.map V.d) se_v73:=ansAt 60 fun n=>by kernel_rfl
theorem se_e74:Ans seM5 94 (se_a74.map V.d) se_v74:=ansAt 60 fun n=>by kernel_rfl
end Go.Proofs.YtdbmhmembmgndaaGreatDoor.Pv
