/-
  DERIVED. GIVEN WITH THE SEED: THE CARDS: each row of YtpbhfbphefmchaaDoorRows.lean that lists a variable, with what it lists TIED to the program's text (the seventh form; the later family's looks); each row that meets fmt, with fmt's text TOLD by the authors' own Lean function (tested against real Go, not proved from fmt's source: count such statements apart). THE CARD IS WHAT COUNTS. Prove the row's statement (the work); the ties are given (YtpbhfbphefmchaaDoorTie.lean); close each card by the builder's one call (the guide's Derived/Test/ToyasCard.lean, 'card_holds'). Laid BY PROGRAM, IN A SANDBOX (cutbox-door.mjs). By AI agents, Wed Nov 11 2026. No macro, syntax, notation, axiom, sorry.
-/
import Derived.Test.YtpbhfbphefmchaaDoorRows
import GoSem.ClaimSeven
namespace Go.Proofs.YtpbhfbphefmchaaDoor
namespace Rows

/-- THE TIED CARD OF 'bodkinlaw44.CompareLines'. -/
def compareLinesCard : Claim7 := { stood := { row := compareLinesRow, standIns := [], harness := (true, "f84376a1d21aef47cd0ab65a5afef69e5d13fefb455e413d6bf9dbd0ed2fbfb4"), looks := false }, kinds := [], alts := [], laidByText := true, laidKinds := [.data, .data, .pinned], laidTests := true, laidLooks := .later }
def CompareLinesCardSaid : Prop := Claim7.holds Tryd.pinned (.plain (OpenSpec.ofChange compareLinesSpec)) compareLinesCard

/-- THE TIED CARD OF 'bodkinlaw44.CompareEdits'. -/
def compareEditsCard : Claim7 := { stood := { row := compareEditsRow, standIns := [], harness := (true, "f84376a1d21aef47cd0ab65a5afef69e5d13fefb455e413d6bf9dbd0ed2fbfb4"), looks := false }, kinds := [], alts := [], laidByText := true, laidKinds := [.data, .data, .pinned], laidTests := true, laidLooks := .later }
def CompareEditsCardSaid : Prop := Claim7.holds Tryd.pinned (.plain (OpenSpec.ofChange compareEditsSpec)) compareEditsCard

/-- THE TIED CARD OF 'bodkinlaw44.CompareMakes'. -/
def compareMakesCard : Claim7 := { stood := { row := compareMakesRow, standIns := [], harness := (true, "f84376a1d21aef47cd0ab65a5afef69e5d13fefb455e413d6bf9dbd0ed2fbfb4"), looks := false }, kinds := [], alts := [], laidByText := true, laidKinds := [.data, .data, .pinned], laidTests := true, laidLooks := .later }
def CompareMakesCardSaid : Prop := Claim7.holds Tryd.pinned (.plain (OpenSpec.ofChange compareMakesSpec)) compareMakesCard

/-- THE TIED CARD OF 'bodkinlaw44.CompareSame'. -/
def compareSameCard : Claim7 := { stood := { row := compareSameRow, standIns := [], harness := (true, "f84376a1d21aef47cd0ab65a5afef69e5d13fefb455e413d6bf9dbd0ed2fbfb4"), looks := false }, kinds := [], alts := [], laidByText := true, laidKinds := [.data, .data, .pinned], laidTests := true, laidLooks := .later }
def CompareSameCardSaid : Prop := Claim7.holds Tryd.pinned (.plain (OpenSpec.ofChange compareSameSpec)) compareSameCard

/-- THE TIED CARD OF 'bodkinlaw44.CompareNone'. -/
def compareNoneCard : Claim7 := { stood := { row := compareNoneRow, standIns := [], harness := (true, "f84376a1d21aef47cd0ab65a5afef69e5d13fefb455e413d6bf9dbd0ed2fbfb4"), looks := false }, kinds := [], alts := [], laidByText := true, laidKinds := [.data, .data, .pinned], laidTests := true, laidLooks := .later }
def CompareNoneCardSaid : Prop := Claim7.holds Tryd.pinned (.plain (OpenSpec.ofChange compareNoneSpec)) compareNoneCard

/-- THE SECOND FORM's CARD OF 'bodkinlaw44.CompareLines'. -/
def compareLinesUptoCard : Claim7 := { stood := { row := compareLinesUptoRow, standIns := [], harness := (true, "f84376a1d21aef47cd0ab65a5afef69e5d13fefb455e413d6bf9dbd0ed2fbfb4"), looks := false }, kinds := [], alts := [], laidByText := true, laidKinds := [.data, .data, .pinned], laidTests := true, laidLooks := .later }
def CompareLinesUptoCardSaid : Prop := Claim7.holds Tryd.pinned (.plain (OpenSpec.upto compareLinesSpec)) compareLinesUptoCard

/-- THE SECOND FORM's CARD OF 'bodkinlaw44.CompareEdits'. -/
def compareEditsUptoCard : Claim7 := { stood := { row := compareEditsUptoRow, standIns := [], harness := (true, "f84376a1d21aef47cd0ab65a5afef69e5d13fefb455e413d6bf9dbd0ed2fbfb4"), looks := false }, kinds := [], alts := [], laidByText := true, laidKinds := [.data, .data, .pinned], laidTests := true, laidLooks := .later }
def CompareEditsUptoCardSaid : Prop := Claim7.holds Tryd.pinned (.plain (OpenSpec.upto compareEditsSpec)) compareEditsUptoCard

/-- THE SECOND FORM's CARD OF 'bodkinlaw44.CompareMakes'. -/
def compareMakesUptoCard : Claim7 := { stood := { row := compareMakesUptoRow, standIns := [], harness := (true, "f84376a1d21aef47cd0ab65a5afef69e5d13fefb455e413d6bf9dbd0ed2fbfb4"), looks := false }, kinds := [], alts := [], laidByText := true, laidKinds := [.data, .data, .pinned], laidTests := true, laidLooks := .later }
def CompareMakesUptoCardSaid : Prop := Claim7.holds Tryd.pinned (.plain (OpenSpec.upto compareMakesSpec)) compareMakesUptoCard

/-- THE SECOND FORM's CARD OF 'bodkinlaw44.CompareSame'. -/
def compareSameUptoCard : Claim7 := { stood := { row := compareSameUptoRow, standIns := [], harness := (true, "f84376a1d21aef47cd0ab65a5afef69e5d13fefb455e413d6bf9dbd0ed2fbfb4"), looks := false }, kinds := [], alts := [], laidByText := true, laidKinds := [.data, .data, .pinned], laidTests := true, laidLooks := .later }
def CompareSameUptoCardSaid : Prop := Claim7.holds Tryd.pinned (.plain (OpenSpec.upto compareSameSpec)) compareSameUptoCard

/-- THE SECOND FORM's CARD OF 'bodkinlaw44.CompareNone'. -/
def compareNoneUptoCard : Claim7 := { stood := { row := compareNoneUptoRow, standIns := [], harness := (true, "f84376a1d21aef47cd0ab65a5afef69e5d13fefb455e413d6bf9dbd0ed2fbfb4"), looks := false }, kinds := [], alts := [], laidByText := true, laidKinds := [.data, .data, .pinned], laidTests := true, laidLooks := .later }
def CompareNoneUptoCardSaid : Prop := Claim7.holds Tryd.pinned (.plain (OpenSpec.upto compareNoneSpec)) compareNoneUptoCard
end Rows
end Go.Proofs.YtpbhfbphefmchaaDoor
