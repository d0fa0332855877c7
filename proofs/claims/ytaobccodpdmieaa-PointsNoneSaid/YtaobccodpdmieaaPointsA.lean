/- Points: paths, printed by a program of mine. -/
import Derived.Test.YtaobccodpdmieaaPointsSpec0
set_option maxRecDepth 100000
set_option linter.unusedSimpArgs false
set_option linter.unusedVariables false
namespace Go.Proofs.Ytaobccodpdmieaa.Points
open Go Pv G
set_option maxHeartbeats 4000000 in
theorem one : one_T := by
  exact pV 12 [] nilE (by kernel_rfl) rfl rfl
set_option maxHeartbeats 4000000 in
theorem lawNone : lawNone_T := by
  intro a b c
  exact pV 12 [] nilE (by kernel_rfl) rfl rfl
end Go.Proofs.Ytaobccodpdmieaa.Points
