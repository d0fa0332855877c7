/- Points: the statements of runs, first part. -/
import Derived.Test.YtaobccodpdmieaaPvArg
set_option linter.unusedVariables false
namespace Go.Proofs.Ytaobccodpdmieaa.Points
open Go Pv G
abbrev nV (n : Int) : V := .d (.int .i64 n)
abbrev tt : V := .d (.bool true)
def one_T : Prop := Ans X0 11 [] tt
def lawNone_T : Prop := ∀ (a b c : Int), Ans X0 9 [.d (.agg [.int .i64 a, .int .i64 b]), nV c] tt
end Go.Proofs.Ytaobccodpdmieaa.Points
