/-
  No cell of these rows narrows 'for every input' (looked for: loops, veiled, ifaces, maps, wideKeys, modest, calm, conditions, laid).
  DERIVED. THE GIVEN ROWS OF THIS SEAT. 7 by the template 'for every input the law returns true; each argument reads behind the call as it read before'; 0 by the template 'total and deterministic' (their statements: YtaobccodpdmieaaTotals.lean).
  GIVEN WITH THE SEED: the statements are not yours to turn. If you find one false, say at which input.
  Laid BY PROGRAM, IN A SANDBOX (cutbox-rows.mjs): the forced cells as the released guide's own fill.sh prints them over the translation f26bd0dcf8487894… (all of the seat's roots in one cut). By AI agents, Wed Nov 11 2026. No macro, syntax, notation, axiom, sorry.
-/
import Derived.Test.YtaobccodpdmieaaChecked
import GoSem.Claim
import GoSem.ClaimJoined
import GoSem.ClaimMapViews
import Derived.JoinedTies
import Derived.KernelRfl
namespace Go.Proofs.Ytaobccodpdmieaa
/- THE CELL 'sum', in the pinned program and in every row, IS THE sha256 OF THE DUMP (.gsa) THAT YtaobccodpdmieaaProg.lean LOADS. Nothing in Lean hashes anything: it is a label: what it is worth is what the hold of that sum in a sandbox is worth. -/
noncomputable def Try.pinned : Pinned := { name := "ytaobccodpdmieaa", sum := "f26bd0dcf8487894767f99b4c83abfad0c449d877983b1aaf723736fea0f82fb", checked := Try.checked }
namespace Rows
def none {H : Type} : Left H := { results := [], args := [] }

/-- 'bodkinlaw24.PointsShows': WHATEVER THE INPUT: true; the input reads as it did. -/
def pointsShowsSpec : ChangeSpec := { name := "pointsShows", fn := fun _ => fun
  | [d1, d2, d3] => { results := [.lit (.bool true)], args := [d1, d2, d3] }
  | _ => none }
def pointsShowsRow : OpenClaim := { program := "ytaobccodpdmieaa", sum := "f26bd0dcf8487894767f99b4c83abfad0c449d877983b1aaf723736fea0f82fb", func := "bodkin/bodkinlaw24.PointsShows", spec := "pointsShows", unfollowed := true, recurses := true, apart := false }
def PointsShowsSaid : Prop := pointsShowsRow.holds Try.pinned (OpenSpec.ofChange pointsShowsSpec)

/-- ITS FALSE NEIGHBOUR: 'it returns false'. Refute it at one input. -/
def pointsShowsWrong : ChangeSpec := { name := "pointsShows", fn := fun _ => fun
  | [d1, d2, d3] => { results := [.lit (.bool false)], args := [d1, d2, d3] }
  | _ => none }
def PointsShowsWrongFalsely : Prop := pointsShowsRow.holds Try.pinned (OpenSpec.ofChange pointsShowsWrong)

/-- 'bodkinlaw24.PointsRise': WHATEVER THE INPUT: true; the input reads as it did. -/
def pointsRiseSpec : ChangeSpec := { name := "pointsRise", fn := fun _ => fun
  | [d1, d2] => { results := [.lit (.bool true)], args := [d1, d2] }
  | _ => none }
def pointsRiseRow : OpenClaim := { program := "ytaobccodpdmieaa", sum := "f26bd0dcf8487894767f99b4c83abfad0c449d877983b1aaf723736fea0f82fb", func := "bodkin/bodkinlaw24.PointsRise", spec := "pointsRise", unfollowed := true, recurses := true, apart := false }
def PointsRiseSaid : Prop := pointsRiseRow.holds Try.pinned (OpenSpec.ofChange pointsRiseSpec)

/-- ITS FALSE NEIGHBOUR: 'it returns false'. Refute it at one input. -/
def pointsRiseWrong : ChangeSpec := { name := "pointsRise", fn := fun _ => fun
  | [d1, d2] => { results := [.lit (.bool false)], args := [d1, d2] }
  | _ => none }
def PointsRiseWrongFalsely : Prop := pointsRiseRow.holds Try.pinned (OpenSpec.ofChange pointsRiseWrong)

/-- 'bodkinlaw24.PointsValid': WHATEVER THE INPUT: true; the input reads as it did. -/
def pointsValidSpec : ChangeSpec := { name := "pointsValid", fn := fun _ => fun
  | [d1, d2] => { results := [.lit (.bool true)], args := [d1, d2] }
  | _ => none }
def pointsValidRow : OpenClaim := { program := "ytaobccodpdmieaa", sum := "f26bd0dcf8487894767f99b4c83abfad0c449d877983b1aaf723736fea0f82fb", func := "bodkin/bodkinlaw24.PointsValid", spec := "pointsValid", unfollowed := true, recurses := true, apart := false }
def PointsValidSaid : Prop := pointsValidRow.holds Try.pinned (OpenSpec.ofChange pointsValidSpec)

/-- ITS FALSE NEIGHBOUR: 'it returns false'. Refute it at one input. -/
def pointsValidWrong : ChangeSpec := { name := "pointsValid", fn := fun _ => fun
  | [d1, d2] => { results := [.lit (.bool false)], args := [d1, d2] }
  | _ => none }
def PointsValidWrongFalsely : Prop := pointsValidRow.holds Try.pinned (OpenSpec.ofChange pointsValidWrong)

/-- 'bodkinlaw24.PointsThere': WHATEVER THE INPUT: true; the input reads as it did. -/
def pointsThereSpec : ChangeSpec := { name := "pointsThere", fn := fun _ => fun
  | [d] => { results := [.lit (.bool true)], args := [d] }
  | _ => none }
def pointsThereRow : OpenClaim := { program := "ytaobccodpdmieaa", sum := "f26bd0dcf8487894767f99b4c83abfad0c449d877983b1aaf723736fea0f82fb", func := "bodkin/bodkinlaw24.PointsThere", spec := "pointsThere", unfollowed := true, recurses := true, apart := false }
def PointsThereSaid : Prop := pointsThereRow.holds Try.pinned (OpenSpec.ofChange pointsThereSpec)

/-- ITS FALSE NEIGHBOUR: 'it returns false'. Refute it at one input. -/
def pointsThereWrong : ChangeSpec := { name := "pointsThere", fn := fun _ => fun
  | [d] => { results := [.lit (.bool false)], args := [d] }
  | _ => none }
def PointsThereWrongFalsely : Prop := pointsThereRow.holds Try.pinned (OpenSpec.ofChange pointsThereWrong)

/-- 'bodkinlaw24.PointsClips': WHATEVER THE INPUT: true; the input reads as it did. -/
def pointsClipsSpec : ChangeSpec := { name := "pointsClips", fn := fun _ => fun
  | [d1, d2, d3] => { results := [.lit (.bool true)], args := [d1, d2, d3] }
  | _ => none }
def pointsClipsRow : OpenClaim := { program := "ytaobccodpdmieaa", sum := "f26bd0dcf8487894767f99b4c83abfad0c449d877983b1aaf723736fea0f82fb", func := "bodkin/bodkinlaw24.PointsClips", spec := "pointsClips", unfollowed := true, recurses := true, apart := false }
def PointsClipsSaid : Prop := pointsClipsRow.holds Try.pinned (OpenSpec.ofChange pointsClipsSpec)

/-- ITS FALSE NEIGHBOUR: 'it returns false'. Refute it at one input. -/
def pointsClipsWrong : ChangeSpec := { name := "pointsClips", fn := fun _ => fun
  | [d1, d2, d3] => { results := [.lit (.bool false)], args := [d1, d2, d3] }
  | _ => none }
def PointsClipsWrongFalsely : Prop := pointsClipsRow.holds Try.pinned (OpenSpec.ofChange pointsClipsWrong)

/-- 'bodkinlaw24.PointsStay': WHATEVER THE INPUT: true; the input reads as it did. -/
def pointsStaySpec : ChangeSpec := { name := "pointsStay", fn := fun _ => fun
  | [d1, d2, d3] => { results := [.lit (.bool true)], args := [d1, d2, d3] }
  | _ => none }
def pointsStayRow : OpenClaim := { program := "ytaobccodpdmieaa", sum := "f26bd0dcf8487894767f99b4c83abfad0c449d877983b1aaf723736fea0f82fb", func := "bodkin/bodkinlaw24.PointsStay", spec := "pointsStay", unfollowed := true, recurses := true, apart := false }
def PointsStaySaid : Prop := pointsStayRow.holds Try.pinned (OpenSpec.ofChange pointsStaySpec)

/-- ITS FALSE NEIGHBOUR: 'it returns false'. Refute it at one input. -/
def pointsStayWrong : ChangeSpec := { name := "pointsStay", fn := fun _ => fun
  | [d1, d2, d3] => { results := [.lit (.bool false)], args := [d1, d2, d3] }
  | _ => none }
def PointsStayWrongFalsely : Prop := pointsStayRow.holds Try.pinned (OpenSpec.ofChange pointsStayWrong)

/-- 'bodkinlaw24.PointsNone': WHATEVER THE INPUT: true; the input reads as it did. -/
def pointsNoneSpec : ChangeSpec := { name := "pointsNone", fn := fun _ => fun
  | [d1, d2] => { results := [.lit (.bool true)], args := [d1, d2] }
  | _ => none }
def pointsNoneRow : OpenClaim := { program := "ytaobccodpdmieaa", sum := "f26bd0dcf8487894767f99b4c83abfad0c449d877983b1aaf723736fea0f82fb", func := "bodkin/bodkinlaw24.PointsNone", spec := "pointsNone", unfollowed := true, recurses := true, apart := false }
def PointsNoneSaid : Prop := pointsNoneRow.holds Try.pinned (OpenSpec.ofChange pointsNoneSpec)

/-- ITS FALSE NEIGHBOUR: 'it returns false'. Refute it at one input. -/
def pointsNoneWrong : ChangeSpec := { name := "pointsNone", fn := fun _ => fun
  | [d1, d2] => { results := [.lit (.bool false)], args := [d1, d2] }
  | _ => none }
def PointsNoneWrongFalsely : Prop := pointsNoneRow.holds Try.pinned (OpenSpec.ofChange pointsNoneWrong)

/- THE SECOND FORM. 'bulk': how many values and letters a reading holds, each counted each time it is reached (what is shared counts as often as it is met; a slice's spare places count too). A statement '..UptoSaid' is the law's where the arguments, and the package variables that the reading takes, are together of bulk at most 1048576: NARROWER than '..Said'. Prove '..Said' where nothing that the law and all that it calls make is longer than what came in: it says more and counts as full. Else prove '..UptoSaid'. A law counts once. -/
mutual
def uptoBulk {H : Type} : DataW H → Nat
  | .lit (.string bytes) => bytes.length + 1
  | .lit _ => 1
  | .nil => 1
  | .ptr d => uptoBulk d + 1
  | .slice elems spare => uptoBulkAll elems + uptoBulkAll spare + 1
  | .agg parts => uptoBulkAll parts + 1
  | .iface _ d => uptoBulk d + 1
  | .map entries => uptoBulkEntries entries + 1
  | .held _ => 1
def uptoBulkAll {H : Type} : List (DataW H) → Nat
  | [] => 0
  | d :: r => uptoBulk d + uptoBulkAll r
def uptoBulkEntries {H : Type} : List (Lit × DataW H) → Nat
  | [] => 0
  | x :: r => uptoBulkEntry x + uptoBulkEntries r
def uptoBulkEntry {H : Type} : Lit × DataW H → Nat
  | (.string bytes, d) => bytes.length + uptoBulk d + 1
  | (_, d) => uptoBulk d + 1
 end
def uptoSmall : (H : Type) → List (DataW H) → Bool := fun _ ds => decide (uptoBulkAll ds ≤ 1048576)
def OpenSpec.upto (s : _root_.Go.ChangeSpec) : _root_.Go.OpenSpec := { _root_.Go.OpenSpec.ofChange s with cond := some uptoSmall }

/-- 'bodkinlaw24.PointsShows', WHERE WHAT IT READS IS OF BULK AT MOST 1048576: true; the input reads as it did. -/
def pointsShowsUptoRow : OpenClaim := { program := "ytaobccodpdmieaa", sum := "f26bd0dcf8487894767f99b4c83abfad0c449d877983b1aaf723736fea0f82fb", func := "bodkin/bodkinlaw24.PointsShows", spec := "pointsShows", unfollowed := true, recurses := true, apart := false, narrowed := true }
def PointsShowsUptoSaid : Prop := pointsShowsUptoRow.holds Try.pinned (OpenSpec.upto pointsShowsSpec)

/-- 'bodkinlaw24.PointsRise', WHERE WHAT IT READS IS OF BULK AT MOST 1048576: true; the input reads as it did. -/
def pointsRiseUptoRow : OpenClaim := { program := "ytaobccodpdmieaa", sum := "f26bd0dcf8487894767f99b4c83abfad0c449d877983b1aaf723736fea0f82fb", func := "bodkin/bodkinlaw24.PointsRise", spec := "pointsRise", unfollowed := true, recurses := true, apart := false, narrowed := true }
def PointsRiseUptoSaid : Prop := pointsRiseUptoRow.holds Try.pinned (OpenSpec.upto pointsRiseSpec)

/-- 'bodkinlaw24.PointsValid', WHERE WHAT IT READS IS OF BULK AT MOST 1048576: true; the input reads as it did. -/
def pointsValidUptoRow : OpenClaim := { program := "ytaobccodpdmieaa", sum := "f26bd0dcf8487894767f99b4c83abfad0c449d877983b1aaf723736fea0f82fb", func := "bodkin/bodkinlaw24.PointsValid", spec := "pointsValid", unfollowed := true, recurses := true, apart := false, narrowed := true }
def PointsValidUptoSaid : Prop := pointsValidUptoRow.holds Try.pinned (OpenSpec.upto pointsValidSpec)

/-- 'bodkinlaw24.PointsThere', WHERE WHAT IT READS IS OF BULK AT MOST 1048576: true; the input reads as it did. -/
def pointsThereUptoRow : OpenClaim := { program := "ytaobccodpdmieaa", sum := "f26bd0dcf8487894767f99b4c83abfad0c449d877983b1aaf723736fea0f82fb", func := "bodkin/bodkinlaw24.PointsThere", spec := "pointsThere", unfollowed := true, recurses := true, apart := false, narrowed := true }
def PointsThereUptoSaid : Prop := pointsThereUptoRow.holds Try.pinned (OpenSpec.upto pointsThereSpec)

/-- 'bodkinlaw24.PointsClips', WHERE WHAT IT READS IS OF BULK AT MOST 1048576: true; the input reads as it did. -/
def pointsClipsUptoRow : OpenClaim := { program := "ytaobccodpdmieaa", sum := "f26bd0dcf8487894767f99b4c83abfad0c449d877983b1aaf723736fea0f82fb", func := "bodkin/bodkinlaw24.PointsClips", spec := "pointsClips", unfollowed := true, recurses := true, apart := false, narrowed := true }
def PointsClipsUptoSaid : Prop := pointsClipsUptoRow.holds Try.pinned (OpenSpec.upto pointsClipsSpec)

/-- 'bodkinlaw24.PointsStay', WHERE WHAT IT READS IS OF BULK AT MOST 1048576: true; the input reads as it did. -/
def pointsStayUptoRow : OpenClaim := { program := "ytaobccodpdmieaa", sum := "f26bd0dcf8487894767f99b4c83abfad0c449d877983b1aaf723736fea0f82fb", func := "bodkin/bodkinlaw24.PointsStay", spec := "pointsStay", unfollowed := true, recurses := true, apart := false, narrowed := true }
def PointsStayUptoSaid : Prop := pointsStayUptoRow.holds Try.pinned (OpenSpec.upto pointsStaySpec)

/-- 'bodkinlaw24.PointsNone', WHERE WHAT IT READS IS OF BULK AT MOST 1048576: true; the input reads as it did. -/
def pointsNoneUptoRow : OpenClaim := { program := "ytaobccodpdmieaa", sum := "f26bd0dcf8487894767f99b4c83abfad0c449d877983b1aaf723736fea0f82fb", func := "bodkin/bodkinlaw24.PointsNone", spec := "pointsNone", unfollowed := true, recurses := true, apart := false, narrowed := true }
def PointsNoneUptoSaid : Prop := pointsNoneUptoRow.holds Try.pinned (OpenSpec.upto pointsNoneSpec)

end Rows
end Go.Proofs.Ytaobccodpdmieaa
