/-
  DERIVED. GIVEN WITH THE SEED: THE CARDS: each row of YtgbijpbkodmikaaGreatDoorRows.lean that lists a variable, with what it lists TIED to the program's text (the seventh form; the later family's looks); each row that meets fmt, with fmt's text TOLD by the authors' own Lean function (tested against real Go, not proved from fmt's source: count such statements apart). THE CARD IS WHAT COUNTS. Prove the row's statement (the work); the ties are given (YtgbijpbkodmikaaGreatDoorTie.lean); close each card by the builder's one call (the guide's Derived/Test/ToyasCard.lean, 'card_holds'). Laid BY PROGRAM, IN A SANDBOX (cutbox-door.mjs). By AI agents, Wed Nov 11 2026. No macro, syntax, notation, axiom, sorry.
-/
import Derived.Test.YtgbijpbkodmikaaGreatDoorRows
import GoSem.ClaimSeven
namespace Go.Proofs.YtgbijpbkodmikaaGreatDoor
namespace Rows

/-- THE TIED CARD OF 'bodkinlaw46.KeysNil'. -/
def keysNilCard : Claim7 := { stood := { row := keysNilRow, standIns := [], harness := (true, "ff625f5488d9dd78692cf6850b34d3526af805fa16a5cf0150089c8c6ea599b3"), looks := true }, kinds := [], alts := [], laidByText := true, laidKinds := [.data, .data, .data, .data, .data, .data, .data, .data, .pinned], laidTests := true, laidLooks := .later }
def KeysNilCardSaid : Prop := Claim7.holds Tryz.pinned (.plain (OpenSpec.ofChange keysNilSpec)) keysNilCard

/-- THE SECOND FORM's CARD OF 'bodkinlaw46.KeysNil'. -/
def keysNilUptoCard : Claim7 := { stood := { row := keysNilUptoRow, standIns := [], harness := (true, "ff625f5488d9dd78692cf6850b34d3526af805fa16a5cf0150089c8c6ea599b3"), looks := true }, kinds := [], alts := [], laidByText := true, laidKinds := [.data, .data, .data, .data, .data, .data, .data, .data, .pinned], laidTests := true, laidLooks := .later }
def KeysNilUptoCardSaid : Prop := Claim7.holds Tryz.pinned (.plain (OpenSpec.upto keysNilSpec)) keysNilUptoCard
end Rows
end Go.Proofs.YtgbijpbkodmikaaGreatDoor
