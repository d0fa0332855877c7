/-
  No cell of these rows narrows 'for every input' (looked for: loops, veiled, ifaces, maps, wideKeys, modest, calm, conditions, laid).
  DERIVED. THE GIVEN ROWS OF THIS SEAT. 5 by the template 'for every input the law returns true; each argument reads behind the call as it read before'; 0 by the template 'total and deterministic' (their statements: YtnijflkbkkgpmaaTotals.lean).
  GIVEN WITH THE SEED: the statements are not yours to turn. If you find one false, say at which input.
  Laid BY PROGRAM, IN A SANDBOX (cutbox-rows.mjs): the forced cells as the released guide's own fill.sh prints them over the translation 8d43b9b603975fce… (all of the seat's roots in one cut). By AI agents, Wed Nov 11 2026. No macro, syntax, notation, axiom, sorry.
-/
import Derived.Test.YtnijflkbkkgpmaaChecked
import GoSem.Claim
import GoSem.ClaimJoined
import GoSem.ClaimMapViews
import Derived.JoinedTies
import Derived.KernelRfl
namespace Go.Proofs.Ytnijflkbkkgpmaa
/- THE CELL 'sum', in the pinned program and in every row, IS THE sha256 OF THE DUMP (.gsa) THAT YtnijflkbkkgpmaaProg.lean LOADS. Nothing in Lean hashes anything: it is a label: what it is worth is what the hold of that sum in a sandbox is worth. -/
noncomputable def Try.pinned : Pinned := { name := "ytnijflkbkkgpmaa", sum := "8d43b9b603975fce4b88e0877ea15c39354d211b98d38bbac1f713cb889bf3ee", checked := Try.checked }
namespace Rows
def none {H : Type} : Left H := { results := [], args := [] }

/-- 'bodkinlaw42.ScrollFollows': WHATEVER THE INPUT: true; the input reads as it did. -/
def scrollFollowsSpec : ChangeSpec := { name := "scrollFollows", fn := fun _ => fun
  | [d1, d2, d3] => { results := [.lit (.bool true)], args := [d1, d2, d3] }
  | _ => none }
def scrollFollowsRow : OpenClaim := { program := "ytnijflkbkkgpmaa", sum := "8d43b9b603975fce4b88e0877ea15c39354d211b98d38bbac1f713cb889bf3ee", func := "bodkin/bodkinlaw42.ScrollFollows", spec := "scrollFollows", unfollowed := true, recurses := true, apart := false }
def ScrollFollowsSaid : Prop := scrollFollowsRow.holds Try.pinned (OpenSpec.ofChange scrollFollowsSpec)

/-- ITS FALSE NEIGHBOUR: 'it returns false'. Refute it at one input. -/
def scrollFollowsWrong : ChangeSpec := { name := "scrollFollows", fn := fun _ => fun
  | [d1, d2, d3] => { results := [.lit (.bool false)], args := [d1, d2, d3] }
  | _ => none }
def ScrollFollowsWrongFalsely : Prop := scrollFollowsRow.holds Try.pinned (OpenSpec.ofChange scrollFollowsWrong)

/-- 'bodkinlaw42.ScrollPatches': WHATEVER THE INPUT: true; the input reads as it did. -/
def scrollPatchesSpec : ChangeSpec := { name := "scrollPatches", fn := fun _ => fun
  | [d1, d2] => { results := [.lit (.bool true)], args := [d1, d2] }
  | _ => none }
def scrollPatchesRow : OpenClaim := { program := "ytnijflkbkkgpmaa", sum := "8d43b9b603975fce4b88e0877ea15c39354d211b98d38bbac1f713cb889bf3ee", func := "bodkin/bodkinlaw42.ScrollPatches", spec := "scrollPatches", unfollowed := true, recurses := true, apart := false }
def ScrollPatchesSaid : Prop := scrollPatchesRow.holds Try.pinned (OpenSpec.ofChange scrollPatchesSpec)

/-- ITS FALSE NEIGHBOUR: 'it returns false'. Refute it at one input. -/
def scrollPatchesWrong : ChangeSpec := { name := "scrollPatches", fn := fun _ => fun
  | [d1, d2] => { results := [.lit (.bool false)], args := [d1, d2] }
  | _ => none }
def ScrollPatchesWrongFalsely : Prop := scrollPatchesRow.holds Try.pinned (OpenSpec.ofChange scrollPatchesWrong)

/-- 'bodkinlaw42.ScrollSees': WHATEVER THE INPUT: true; the input reads as it did. -/
def scrollSeesSpec : ChangeSpec := { name := "scrollSees", fn := fun _ => fun
  | [d1, d2, d3] => { results := [.lit (.bool true)], args := [d1, d2, d3] }
  | _ => none }
def scrollSeesRow : OpenClaim := { program := "ytnijflkbkkgpmaa", sum := "8d43b9b603975fce4b88e0877ea15c39354d211b98d38bbac1f713cb889bf3ee", func := "bodkin/bodkinlaw42.ScrollSees", spec := "scrollSees", unfollowed := true, recurses := true, apart := false }
def ScrollSeesSaid : Prop := scrollSeesRow.holds Try.pinned (OpenSpec.ofChange scrollSeesSpec)

/-- ITS FALSE NEIGHBOUR: 'it returns false'. Refute it at one input. -/
def scrollSeesWrong : ChangeSpec := { name := "scrollSees", fn := fun _ => fun
  | [d1, d2, d3] => { results := [.lit (.bool false)], args := [d1, d2, d3] }
  | _ => none }
def ScrollSeesWrongFalsely : Prop := scrollSeesRow.holds Try.pinned (OpenSpec.ofChange scrollSeesWrong)

/-- 'bodkinlaw42.ScrollClamps': WHATEVER THE INPUT: true; the input reads as it did. -/
def scrollClampsSpec : ChangeSpec := { name := "scrollClamps", fn := fun _ => fun
  | [d1, d2] => { results := [.lit (.bool true)], args := [d1, d2] }
  | _ => none }
def scrollClampsRow : OpenClaim := { program := "ytnijflkbkkgpmaa", sum := "8d43b9b603975fce4b88e0877ea15c39354d211b98d38bbac1f713cb889bf3ee", func := "bodkin/bodkinlaw42.ScrollClamps", spec := "scrollClamps", unfollowed := true, recurses := true, apart := false }
def ScrollClampsSaid : Prop := scrollClampsRow.holds Try.pinned (OpenSpec.ofChange scrollClampsSpec)

/-- ITS FALSE NEIGHBOUR: 'it returns false'. Refute it at one input. -/
def scrollClampsWrong : ChangeSpec := { name := "scrollClamps", fn := fun _ => fun
  | [d1, d2] => { results := [.lit (.bool false)], args := [d1, d2] }
  | _ => none }
def ScrollClampsWrongFalsely : Prop := scrollClampsRow.holds Try.pinned (OpenSpec.ofChange scrollClampsWrong)

/-- 'bodkinlaw42.ScrollBack': WHATEVER THE INPUT: true; the input reads as it did. -/
def scrollBackSpec : ChangeSpec := { name := "scrollBack", fn := fun _ => fun
  | [d1, d2, d3] => { results := [.lit (.bool true)], args := [d1, d2, d3] }
  | _ => none }
def scrollBackRow : OpenClaim := { program := "ytnijflkbkkgpmaa", sum := "8d43b9b603975fce4b88e0877ea15c39354d211b98d38bbac1f713cb889bf3ee", func := "bodkin/bodkinlaw42.ScrollBack", spec := "scrollBack", unfollowed := true, recurses := true, apart := false }
def ScrollBackSaid : Prop := scrollBackRow.holds Try.pinned (OpenSpec.ofChange scrollBackSpec)

/-- ITS FALSE NEIGHBOUR: 'it returns false'. Refute it at one input. -/
def scrollBackWrong : ChangeSpec := { name := "scrollBack", fn := fun _ => fun
  | [d1, d2, d3] => { results := [.lit (.bool false)], args := [d1, d2, d3] }
  | _ => none }
def ScrollBackWrongFalsely : Prop := scrollBackRow.holds Try.pinned (OpenSpec.ofChange scrollBackWrong)

/- THE SECOND FORM. 'bulk': how many values and letters a reading holds, each counted each time it is reached (what is shared counts as often as it is met; a slice's spare places count too). A statement '..UptoSaid' is the law's where the arguments, and the package variables that the reading takes, are together of bulk at most 1048576: NARROWER than '..Said'. Prove '..Said' where nothing that the law and all that it calls make is longer than what came in: it says more and counts as full. Else prove '..UptoSaid'. A law counts once. -/
mutual
def uptoBulk {H : Type} : DataW H → Nat
  | .lit (.string bytes) => bytes.length + 1
  | .lit _ => 1
  | .nil => 1
  | .ptr d => uptoBulk d + 1
  | .slice elems spare => uptoBulkAll elems + uptoBulkAll spare + 1
  | .agg parts => uptoBulkAll parts + 1
  | .iface _ d => uptoBulk d + 1
  | .map entries => uptoBulkEntries entries + 1
  | .held _ => 1
def uptoBulkAll {H : Type} : List (DataW H) → Nat
  | [] => 0
  | d :: r => uptoBulk d + uptoBulkAll r
def uptoBulkEntries {H : Type} : List (Lit × DataW H) → Nat
  | [] => 0
  | x :: r => uptoBulkEntry x + uptoBulkEntries r
def uptoBulkEntry {H : Type} : Lit × DataW H → Nat
  | (.string bytes, d) => bytes.length + uptoBulk d + 1
  | (_, d) => uptoBulk d + 1
 end
def uptoSmall : (H : Type) → List (DataW H) → Bool := fun _ ds => decide (uptoBulkAll ds ≤ 1048576)
def OpenSpec.upto (s : _root_.Go.ChangeSpec) : _root_.Go.OpenSpec := { _root_.Go.OpenSpec.ofChange s with cond := some uptoSmall }

/-- 'bodkinlaw42.ScrollFollows', WHERE WHAT IT READS IS OF BULK AT MOST 1048576: true; the input reads as it did. -/
def scrollFollowsUptoRow : OpenClaim := { program := "ytnijflkbkkgpmaa", sum := "8d43b9b603975fce4b88e0877ea15c39354d211b98d38bbac1f713cb889bf3ee", func := "bodkin/bodkinlaw42.ScrollFollows", spec := "scrollFollows", unfollowed := true, recurses := true, apart := false, narrowed := true }
def ScrollFollowsUptoSaid : Prop := scrollFollowsUptoRow.holds Try.pinned (OpenSpec.upto scrollFollowsSpec)

/-- 'bodkinlaw42.ScrollPatches', WHERE WHAT IT READS IS OF BULK AT MOST 1048576: true; the input reads as it did. -/
def scrollPatchesUptoRow : OpenClaim := { program := "ytnijflkbkkgpmaa", sum := "8d43b9b603975fce4b88e0877ea15c39354d211b98d38bbac1f713cb889bf3ee", func := "bodkin/bodkinlaw42.ScrollPatches", spec := "scrollPatches", unfollowed := true, recurses := true, apart := false, narrowed := true }
def ScrollPatchesUptoSaid : Prop := scrollPatchesUptoRow.holds Try.pinned (OpenSpec.upto scrollPatchesSpec)

/-- 'bodkinlaw42.ScrollSees', WHERE WHAT IT READS IS OF BULK AT MOST 1048576: true; the input reads as it did. -/
def scrollSeesUptoRow : OpenClaim := { program := "ytnijflkbkkgpmaa", sum := "8d43b9b603975fce4b88e0877ea15c39354d211b98d38bbac1f713cb889bf3ee", func := "bodkin/bodkinlaw42.ScrollSees", spec := "scrollSees", unfollowed := true, recurses := true, apart := false, narrowed := true }
def ScrollSeesUptoSaid : Prop := scrollSeesUptoRow.holds Try.pinned (OpenSpec.upto scrollSeesSpec)

/-- 'bodkinlaw42.ScrollClamps', WHERE WHAT IT READS IS OF BULK AT MOST 1048576: true; the input reads as it did. -/
def scrollClampsUptoRow : OpenClaim := { program := "ytnijflkbkkgpmaa", sum := "8d43b9b603975fce4b88e0877ea15c39354d211b98d38bbac1f713cb889bf3ee", func := "bodkin/bodkinlaw42.ScrollClamps", spec := "scrollClamps", unfollowed := true, recurses := true, apart := false, narrowed := true }
def ScrollClampsUptoSaid : Prop := scrollClampsUptoRow.holds Try.pinned (OpenSpec.upto scrollClampsSpec)

/-- 'bodkinlaw42.ScrollBack', WHERE WHAT IT READS IS OF BULK AT MOST 1048576: true; the input reads as it did. -/
def scrollBackUptoRow : OpenClaim := { program := "ytnijflkbkkgpmaa", sum := "8d43b9b603975fce4b88e0877ea15c39354d211b98d38bbac1f713cb889bf3ee", func := "bodkin/bodkinlaw42.ScrollBack", spec := "scrollBack", unfollowed := true, recurses := true, apart := false, narrowed := true }
def ScrollBackUptoSaid : Prop := scrollBackUptoRow.holds Try.pinned (OpenSpec.upto scrollBackSpec)

end Rows
end Go.Proofs.Ytnijflkbkkgpmaa
