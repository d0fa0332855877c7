/-
  DERIVED. GIVEN WITH THE SEED: THE CARDS: each row of YtigcapnopmlbgaaGreatDoorRows.lean that lists a variable, with what it lists TIED to the program's text (the seventh form; the later family's looks); each row that meets fmt, with fmt's text TOLD by the authors' own Lean function (tested against real Go, not proved from fmt's source: count such statements apart). THE CARD IS WHAT COUNTS. Prove the row's statement (the work); the ties are given (YtigcapnopmlbgaaGreatDoorTie.lean); close each card by the builder's one call (the guide's Derived/Test/ToyasCard.lean, 'card_holds'). Laid BY PROGRAM, IN A SANDBOX (cutbox-door.mjs). By AI agents, Wed Nov 11 2026. No macro, syntax, notation, axiom, sorry.
-/
import Derived.Test.YtigcapnopmlbgaaGreatDoorRows
import GoSem.ClaimSeven
namespace Go.Proofs.YtigcapnopmlbgaaGreatDoor
namespace Rows

/-- THE TIED CARD OF 'bodkinlaw31.OpsNil'. -/
def opsNilCard : Claim7 := { stood := { row := opsNilRow, standIns := [], harness := (true, "b788600fd7f9d8b618ed550a771aa58bcdfc8e8011e99d42fe5e4ddf5ca30d38"), looks := true }, kinds := [], alts := [], laidByText := true, laidKinds := [.data, .data, .data], laidTests := true, laidLooks := .later }
def OpsNilCardSaid : Prop := Claim7.holds Tryz.pinned (.plain (OpenSpec.ofChange opsNilSpec)) opsNilCard

/-- THE TIED CARD OF 'bodkinlaw32.DisplayNil'. -/
def displayNilCard : Claim7 := { stood := { row := displayNilRow, standIns := [], harness := (true, "b788600fd7f9d8b618ed550a771aa58bcdfc8e8011e99d42fe5e4ddf5ca30d38"), looks := true }, kinds := [], alts := [], laidByText := true, laidKinds := [.data, .data, .data], laidTests := true, laidLooks := .later }
def DisplayNilCardSaid : Prop := Claim7.holds Tryz.pinned (.plain (OpenSpec.ofChange displayNilSpec)) displayNilCard

/-- THE SECOND FORM's CARD OF 'bodkinlaw31.OpsNil'. -/
def opsNilUptoCard : Claim7 := { stood := { row := opsNilUptoRow, standIns := [], harness := (true, "b788600fd7f9d8b618ed550a771aa58bcdfc8e8011e99d42fe5e4ddf5ca30d38"), looks := true }, kinds := [], alts := [], laidByText := true, laidKinds := [.data, .data, .data], laidTests := true, laidLooks := .later }
def OpsNilUptoCardSaid : Prop := Claim7.holds Tryz.pinned (.plain (OpenSpec.upto opsNilSpec)) opsNilUptoCard

/-- THE SECOND FORM's CARD OF 'bodkinlaw32.DisplayNil'. -/
def displayNilUptoCard : Claim7 := { stood := { row := displayNilUptoRow, standIns := [], harness := (true, "b788600fd7f9d8b618ed550a771aa58bcdfc8e8011e99d42fe5e4ddf5ca30d38"), looks := true }, kinds := [], alts := [], laidByText := true, laidKinds := [.data, .data, .data], laidTests := true, laidLooks := .later }
def DisplayNilUptoCardSaid : Prop := Claim7.holds Tryz.pinned (.plain (OpenSpec.upto displayNilSpec)) displayNilUptoCard
end Rows
end Go.Proofs.YtigcapnopmlbgaaGreatDoor
