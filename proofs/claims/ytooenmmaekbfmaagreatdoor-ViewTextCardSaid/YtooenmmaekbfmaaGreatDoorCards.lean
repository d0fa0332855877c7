/-
  DERIVED. GIVEN WITH THE SEED: THE CARDS: each row of YtooenmmaekbfmaaGreatDoorRows.lean that lists a variable, with what it lists TIED to the program's text (the seventh form; the later family's looks); each row that meets fmt, with fmt's text TOLD by the authors' own Lean function (tested against real Go, not proved from fmt's source: count such statements apart). THE CARD IS WHAT COUNTS. Prove the row's statement (the work); the ties are given (YtooenmmaekbfmaaGreatDoorTie.lean); close each card by the builder's one call (the guide's Derived/Test/ToyasCard.lean, 'card_holds'). Laid BY PROGRAM, IN A SANDBOX (cutbox-door.mjs). By AI agents, Wed Nov 11 2026. No macro, syntax, notation, axiom, sorry.
-/
import Derived.Test.YtooenmmaekbfmaaGreatDoorRows
import GoSem.ClaimSeven
namespace Go.Proofs.YtooenmmaekbfmaaGreatDoor
namespace Rows

/-- THE TIED CARD OF 'bodkinlaw34.StatsNil'. -/
def statsNilCard : Claim7 := { stood := { row := statsNilRow, standIns := [], harness := (true, "811107ed43c5d0cd46acaae4380b805f779baf3a1040681d99b00ff229d3c4e3"), looks := true }, kinds := [], alts := [], laidByText := true, laidKinds := [.data, .data, .data], laidTests := true, laidLooks := .later }
def StatsNilCardSaid : Prop := Claim7.holds Tryz.pinned (.plain (OpenSpec.ofChange statsNilSpec)) statsNilCard

/-- THE TIED CARD OF 'bodkinlaw33.ViewText'. -/
def viewTextCard : Claim7 := { stood := { row := viewTextRow, standIns := [], harness := (true, "811107ed43c5d0cd46acaae4380b805f779baf3a1040681d99b00ff229d3c4e3"), looks := true }, kinds := [], alts := [], laidByText := true, laidKinds := [.data, .data, .data], laidTests := true, laidLooks := .later }
def ViewTextCardSaid : Prop := Claim7.holds Tryz.pinned (.plain (OpenSpec.ofChange viewTextSpec)) viewTextCard

/-- THE SECOND FORM's CARD OF 'bodkinlaw34.StatsNil'. -/
def statsNilUptoCard : Claim7 := { stood := { row := statsNilUptoRow, standIns := [], harness := (true, "811107ed43c5d0cd46acaae4380b805f779baf3a1040681d99b00ff229d3c4e3"), looks := true }, kinds := [], alts := [], laidByText := true, laidKinds := [.data, .data, .data], laidTests := true, laidLooks := .later }
def StatsNilUptoCardSaid : Prop := Claim7.holds Tryz.pinned (.plain (OpenSpec.upto statsNilSpec)) statsNilUptoCard

/-- THE SECOND FORM's CARD OF 'bodkinlaw33.ViewText'. -/
def viewTextUptoCard : Claim7 := { stood := { row := viewTextUptoRow, standIns := [], harness := (true, "811107ed43c5d0cd46acaae4380b805f779baf3a1040681d99b00ff229d3c4e3"), looks := true }, kinds := [], alts := [], laidByText := true, laidKinds := [.data, .data, .data], laidTests := true, laidLooks := .later }
def ViewTextUptoCardSaid : Prop := Claim7.holds Tryz.pinned (.plain (OpenSpec.upto viewTextSpec)) viewTextUptoCard
end Rows
end Go.Proofs.YtooenmmaekbfmaaGreatDoor
