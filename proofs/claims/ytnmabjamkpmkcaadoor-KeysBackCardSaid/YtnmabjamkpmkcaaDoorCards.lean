/-
  DERIVED. GIVEN WITH THE SEED: THE CARDS: each row of YtnmabjamkpmkcaaDoorRows.lean that lists a variable, with what it lists TIED to the program's text (the seventh form; the later family's looks); each row that meets fmt, with fmt's text TOLD by the authors' own Lean function (tested against real Go, not proved from fmt's source: count such statements apart). THE CARD IS WHAT COUNTS. Prove the row's statement (the work); the ties are given (YtnmabjamkpmkcaaDoorTie.lean); close each card by the builder's one call (the guide's Derived/Test/ToyasCard.lean, 'card_holds'). Laid BY PROGRAM, IN A SANDBOX (cutbox-door.mjs). By AI agents, Wed Nov 11 2026. No macro, syntax, notation, axiom, sorry.
-/
import Derived.Test.YtnmabjamkpmkcaaDoorRows
import GoSem.ClaimSeven
namespace Go.Proofs.YtnmabjamkpmkcaaDoor
namespace Rows

/-- THE TIED CARD OF 'bodkinlaw46.KeysParse'. -/
def keysParseCard : Claim7 := { stood := { row := keysParseRow, standIns := [], harness := (true, "4acfe21ade90c3c5a494e3e1caa4eb19efb649aa3d3a490ec032be078795e1eb"), looks := false }, kinds := [], alts := [], laidByText := true, laidKinds := [.data, .data, .data, .data, .data, .pinned], laidTests := true, laidLooks := .later }
def KeysParseCardSaid : Prop := Claim7.holds Tryd.pinned (.plain (OpenSpec.ofChange keysParseSpec)) keysParseCard

/-- THE TIED CARD OF 'bodkinlaw46.KeysLine'. -/
def keysLineCard : Claim7 := { stood := { row := keysLineRow, standIns := [], harness := (true, "4acfe21ade90c3c5a494e3e1caa4eb19efb649aa3d3a490ec032be078795e1eb"), looks := false }, kinds := [], alts := [], laidByText := true, laidKinds := [.data, .data, .data, .data, .data, .pinned], laidTests := true, laidLooks := .later }
def KeysLineCardSaid : Prop := Claim7.holds Tryd.pinned (.plain (OpenSpec.ofChange keysLineSpec)) keysLineCard

/-- THE TIED CARD OF 'bodkinlaw46.KeysMacro'. -/
def keysMacroCard : Claim7 := { stood := { row := keysMacroRow, standIns := [], harness := (true, "4acfe21ade90c3c5a494e3e1caa4eb19efb649aa3d3a490ec032be078795e1eb"), looks := false }, kinds := [], alts := [], laidByText := true, laidKinds := [.data, .data, .data, .data, .data, .pinned], laidTests := true, laidLooks := .later }
def KeysMacroCardSaid : Prop := Claim7.holds Tryd.pinned (.plain (OpenSpec.ofChange keysMacroSpec)) keysMacroCard

/-- THE TIED CARD OF 'bodkinlaw46.KeysBack'. -/
def keysBackCard : Claim7 := { stood := { row := keysBackRow, standIns := [], harness := (true, "4acfe21ade90c3c5a494e3e1caa4eb19efb649aa3d3a490ec032be078795e1eb"), looks := false }, kinds := [], alts := [], laidByText := true, laidKinds := [.data, .data, .data, .data, .data, .pinned], laidTests := true, laidLooks := .later }
def KeysBackCardSaid : Prop := Claim7.holds Tryd.pinned (.plain (OpenSpec.ofChange keysBackSpec)) keysBackCard

/-- THE SECOND FORM's CARD OF 'bodkinlaw46.KeysParse'. -/
def keysParseUptoCard : Claim7 := { stood := { row := keysParseUptoRow, standIns := [], harness := (true, "4acfe21ade90c3c5a494e3e1caa4eb19efb649aa3d3a490ec032be078795e1eb"), looks := false }, kinds := [], alts := [], laidByText := true, laidKinds := [.data, .data, .data, .data, .data, .pinned], laidTests := true, laidLooks := .later }
def KeysParseUptoCardSaid : Prop := Claim7.holds Tryd.pinned (.plain (OpenSpec.upto keysParseSpec)) keysParseUptoCard

/-- THE SECOND FORM's CARD OF 'bodkinlaw46.KeysLine'. -/
def keysLineUptoCard : Claim7 := { stood := { row := keysLineUptoRow, standIns := [], harness := (true, "4acfe21ade90c3c5a494e3e1caa4eb19efb649aa3d3a490ec032be078795e1eb"), looks := false }, kinds := [], alts := [], laidByText := true, laidKinds := [.data, .data, .data, .data, .data, .pinned], laidTests := true, laidLooks := .later }
def KeysLineUptoCardSaid : Prop := Claim7.holds Tryd.pinned (.plain (OpenSpec.upto keysLineSpec)) keysLineUptoCard

/-- THE SECOND FORM's CARD OF 'bodkinlaw46.KeysMacro'. -/
def keysMacroUptoCard : Claim7 := { stood := { row := keysMacroUptoRow, standIns := [], harness := (true, "4acfe21ade90c3c5a494e3e1caa4eb19efb649aa3d3a490ec032be078795e1eb"), looks := false }, kinds := [], alts := [], laidByText := true, laidKinds := [.data, .data, .data, .data, .data, .pinned], laidTests := true, laidLooks := .later }
def KeysMacroUptoCardSaid : Prop := Claim7.holds Tryd.pinned (.plain (OpenSpec.upto keysMacroSpec)) keysMacroUptoCard

/-- THE SECOND FORM's CARD OF 'bodkinlaw46.KeysBack'. -/
def keysBackUptoCard : Claim7 := { stood := { row := keysBackUptoRow, standIns := [], harness := (true, "4acfe21ade90c3c5a494e3e1caa4eb19efb649aa3d3a490ec032be078795e1eb"), looks := false }, kinds := [], alts := [], laidByText := true, laidKinds := [.data, .data, .data, .data, .data, .pinned], laidTests := true, laidLooks := .later }
def KeysBackUptoCardSaid : Prop := Claim7.holds Tryd.pinned (.plain (OpenSpec.upto keysBackSpec)) keysBackUptoCard
end Rows
end Go.Proofs.YtnmabjamkpmkcaaDoor
