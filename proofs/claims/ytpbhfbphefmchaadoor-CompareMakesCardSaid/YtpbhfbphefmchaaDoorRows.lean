/-
  NARROWER THAN 'FOR EVERY INPUT', by the rows' own cells (each row's printed sentence says how): CompareLines: laid · CompareEdits: laid · CompareMakes: laid · CompareSame: laid · CompareNone: laid.
  DERIVED. THE GIVEN ROWS OF THIS SEAT. 5 by the template 'for every input the law returns true; each argument reads behind the call as it read before'; 0 by the template 'total and deterministic' (their statements: YtpbhfbphefmchaaDoorTotals.lean).
  GIVEN WITH THE SEED: the statements are not yours to turn. If you find one false, say at which input.
  Laid BY PROGRAM, IN A SANDBOX (cutbox-rows.mjs): the forced cells as the released guide's own fill.sh prints them over the translation 81b240d24d3dc22a… (all of the seat's roots in one cut). By AI agents, Wed Nov 11 2026. No macro, syntax, notation, axiom, sorry.
-/
import Derived.Test.YtpbhfbphefmchaaDoorChecked
import GoSem.PinnedTables
import GoSem.Claim
import GoSem.ClaimJoined
import GoSem.ClaimMapViews
import Derived.JoinedTies
import Derived.KernelRfl
namespace Go.Proofs.YtpbhfbphefmchaaDoor
/- THE CELL 'sum', in the pinned program and in every row, IS THE sha256 OF THE DUMP (.gsa) THAT YtpbhfbphefmchaaDoorProg.lean LOADS. Nothing in Lean hashes anything: it is a label: what it is worth is what the hold of that sum in a sandbox is worth. -/
noncomputable def Tryd.pinned : Pinned := { name := "ytpbhfbphefmchaadoor", sum := "81b240d24d3dc22a16d24b5e5f541b31e09bde032cc8508a4705071e2e62fc8d", checked := Tryd.checked }
namespace Rows
def none {H : Type} : Left H := { results := [], args := [] }

/- WHAT THE LISTED PACKAGE-LEVEL VARIABLES READ AS WHEN THE CALL BEGINS. Each datum BY PROGRAM (the guide's laid-datum.mjs) off the statement by which the dump's own 'gosem.cut.vars' lays the variable. In a bare row this is a premise. The card (YtpbhfbphefmchaaDoorCards.lean) ties it to the program's text. -/
def laid_unicode_utf8_acceptRanges {H : Type} : DataW H := .agg [.agg [.lit (.int .u8 128), .lit (.int .u8 191)], .agg [.lit (.int .u8 160), .lit (.int .u8 191)], .agg [.lit (.int .u8 128), .lit (.int .u8 159)], .agg [.lit (.int .u8 144), .lit (.int .u8 191)], .agg [.lit (.int .u8 128), .lit (.int .u8 143)], .agg [.lit (.int .u8 0), .lit (.int .u8 0)], .agg [.lit (.int .u8 0), .lit (.int .u8 0)], .agg [.lit (.int .u8 0), .lit (.int .u8 0)], .agg [.lit (.int .u8 0), .lit (.int .u8 0)], .agg [.lit (.int .u8 0), .lit (.int .u8 0)], .agg [.lit (.int .u8 0), .lit (.int .u8 0)], .agg [.lit (.int .u8 0), .lit (.int .u8 0)], .agg [.lit (.int .u8 0), .lit (.int .u8 0)], .agg [.lit (.int .u8 0), .lit (.int .u8 0)], .agg [.lit (.int .u8 0), .lit (.int .u8 0)], .agg [.lit (.int .u8 0), .lit (.int .u8 0)]]
def laid_bodkin_utf_most {H : Type} : DataW H := .agg [.lit (.int .i32 127), .lit (.int .i32 2047), .lit (.int .i32 65535), .lit (.int .i32 1114111)]
/-- One of Go's own tables, pinned by name: the form's constant. -/
def laid_unicode_utf8_first : DataW Unit := Go.Pinned.utf8First

/-- 'bodkinlaw44.CompareLines': WHATEVER THE INPUT: true; the input reads as it did. -/
def compareLinesSpec : ChangeSpec := { name := "compareLines", fn := fun _ => fun
  | [d] => { results := [.lit (.bool true)], args := [d] }
  | _ => none }
def compareLinesRow : OpenClaim := { program := "ytpbhfbphefmchaadoor", sum := "81b240d24d3dc22a16d24b5e5f541b31e09bde032cc8508a4705071e2e62fc8d", func := "bodkin/bodkinlaw44.CompareLines", spec := "compareLines", inPlace := ["internal/bytealg.CountString", "internal/bytealg.IndexByteString", "internal/bytealg.IndexString"], named := ["bodkin/utf.most", "unicode/utf8.first", "unicode/utf8.acceptRanges", "internal/bytealg.MaxLen"], apart := false, laid := [("unicode/utf8.acceptRanges", laid_unicode_utf8_acceptRanges), ("bodkin/utf.most", laid_bodkin_utf_most), ("unicode/utf8.first", laid_unicode_utf8_first)] }
def CompareLinesSaid : Prop := compareLinesRow.holds Tryd.pinned (OpenSpec.ofChange compareLinesSpec)

/-- ITS FALSE NEIGHBOUR: 'it returns false'. Refute it at one input. -/
def compareLinesWrong : ChangeSpec := { name := "compareLines", fn := fun _ => fun
  | [d] => { results := [.lit (.bool false)], args := [d] }
  | _ => none }
def CompareLinesWrongFalsely : Prop := compareLinesRow.holds Tryd.pinned (OpenSpec.ofChange compareLinesWrong)

/-- 'bodkinlaw44.CompareEdits': WHATEVER THE INPUT: true; the input reads as it did. -/
def compareEditsSpec : ChangeSpec := { name := "compareEdits", fn := fun _ => fun
  | [d1, d2] => { results := [.lit (.bool true)], args := [d1, d2] }
  | _ => none }
def compareEditsRow : OpenClaim := { program := "ytpbhfbphefmchaadoor", sum := "81b240d24d3dc22a16d24b5e5f541b31e09bde032cc8508a4705071e2e62fc8d", func := "bodkin/bodkinlaw44.CompareEdits", spec := "compareEdits", inPlace := ["internal/bytealg.CountString", "internal/bytealg.IndexByteString", "internal/bytealg.IndexString"], named := ["bodkin/utf.most", "unicode/utf8.first", "unicode/utf8.acceptRanges", "internal/bytealg.MaxLen"], apart := false, laid := [("unicode/utf8.acceptRanges", laid_unicode_utf8_acceptRanges), ("bodkin/utf.most", laid_bodkin_utf_most), ("unicode/utf8.first", laid_unicode_utf8_first)] }
def CompareEditsSaid : Prop := compareEditsRow.holds Tryd.pinned (OpenSpec.ofChange compareEditsSpec)

/-- ITS FALSE NEIGHBOUR: 'it returns false'. Refute it at one input. -/
def compareEditsWrong : ChangeSpec := { name := "compareEdits", fn := fun _ => fun
  | [d1, d2] => { results := [.lit (.bool false)], args := [d1, d2] }
  | _ => none }
def CompareEditsWrongFalsely : Prop := compareEditsRow.holds Tryd.pinned (OpenSpec.ofChange compareEditsWrong)

/-- 'bodkinlaw44.CompareMakes': WHATEVER THE INPUT: true; the input reads as it did. -/
def compareMakesSpec : ChangeSpec := { name := "compareMakes", fn := fun _ => fun
  | [d1, d2] => { results := [.lit (.bool true)], args := [d1, d2] }
  | _ => none }
def compareMakesRow : OpenClaim := { program := "ytpbhfbphefmchaadoor", sum := "81b240d24d3dc22a16d24b5e5f541b31e09bde032cc8508a4705071e2e62fc8d", func := "bodkin/bodkinlaw44.CompareMakes", spec := "compareMakes", inPlace := ["internal/bytealg.CountString", "internal/bytealg.IndexByteString", "internal/bytealg.IndexString"], named := ["bodkin/utf.most", "unicode/utf8.first", "unicode/utf8.acceptRanges", "internal/bytealg.MaxLen"], apart := false, laid := [("unicode/utf8.acceptRanges", laid_unicode_utf8_acceptRanges), ("bodkin/utf.most", laid_bodkin_utf_most), ("unicode/utf8.first", laid_unicode_utf8_first)] }
def CompareMakesSaid : Prop := compareMakesRow.holds Tryd.pinned (OpenSpec.ofChange compareMakesSpec)

/-- ITS FALSE NEIGHBOUR: 'it returns false'. Refute it at one input. -/
def compareMakesWrong : ChangeSpec := { name := "compareMakes", fn := fun _ => fun
  | [d1, d2] => { results := [.lit (.bool false)], args := [d1, d2] }
  | _ => none }
def CompareMakesWrongFalsely : Prop := compareMakesRow.holds Tryd.pinned (OpenSpec.ofChange compareMakesWrong)

/-- 'bodkinlaw44.CompareSame': WHATEVER THE INPUT: true; the input reads as it did. -/
def compareSameSpec : ChangeSpec := { name := "compareSame", fn := fun _ => fun
  | [d1, d2] => { results := [.lit (.bool true)], args := [d1, d2] }
  | _ => none }
def compareSameRow : OpenClaim := { program := "ytpbhfbphefmchaadoor", sum := "81b240d24d3dc22a16d24b5e5f541b31e09bde032cc8508a4705071e2e62fc8d", func := "bodkin/bodkinlaw44.CompareSame", spec := "compareSame", inPlace := ["internal/bytealg.CountString", "internal/bytealg.IndexByteString", "internal/bytealg.IndexString"], named := ["bodkin/utf.most", "unicode/utf8.first", "unicode/utf8.acceptRanges", "internal/bytealg.MaxLen"], apart := false, laid := [("unicode/utf8.acceptRanges", laid_unicode_utf8_acceptRanges), ("bodkin/utf.most", laid_bodkin_utf_most), ("unicode/utf8.first", laid_unicode_utf8_first)] }
def CompareSameSaid : Prop := compareSameRow.holds Tryd.pinned (OpenSpec.ofChange compareSameSpec)

/-- ITS FALSE NEIGHBOUR: 'it returns false'. Refute it at one input. -/
def compareSameWrong : ChangeSpec := { name := "compareSame", fn := fun _ => fun
  | [d1, d2] => { results := [.lit (.bool false)], args := [d1, d2] }
  | _ => none }
def CompareSameWrongFalsely : Prop := compareSameRow.holds Tryd.pinned (OpenSpec.ofChange compareSameWrong)

/-- 'bodkinlaw44.CompareNone': WHATEVER THE INPUT: true; the input reads as it did. -/
def compareNoneSpec : ChangeSpec := { name := "compareNone", fn := fun _ => fun
  | [d] => { results := [.lit (.bool true)], args := [d] }
  | _ => none }
def compareNoneRow : OpenClaim := { program := "ytpbhfbphefmchaadoor", sum := "81b240d24d3dc22a16d24b5e5f541b31e09bde032cc8508a4705071e2e62fc8d", func := "bodkin/bodkinlaw44.CompareNone", spec := "compareNone", inPlace := ["internal/bytealg.CountString", "internal/bytealg.IndexByteString", "internal/bytealg.IndexString"], named := ["bodkin/utf.most", "unicode/utf8.first", "unicode/utf8.acceptRanges", "internal/bytealg.MaxLen"], apart := false, laid := [("unicode/utf8.acceptRanges", laid_unicode_utf8_acceptRanges), ("bodkin/utf.most", laid_bodkin_utf_most), ("unicode/utf8.first", laid_unicode_utf8_first)] }
def CompareNoneSaid : Prop := compareNoneRow.holds Tryd.pinned (OpenSpec.ofChange compareNoneSpec)

/-- ITS FALSE NEIGHBOUR: 'it returns false'. Refute it at one input. -/
def compareNoneWrong : ChangeSpec := { name := "compareNone", fn := fun _ => fun
  | [d] => { results := [.lit (.bool false)], args := [d] }
  | _ => none }
def CompareNoneWrongFalsely : Prop := compareNoneRow.holds Tryd.pinned (OpenSpec.ofChange compareNoneWrong)

/- THE SECOND FORM. 'bulk': how many values and letters a reading holds, each counted each time it is reached (what is shared counts as often as it is met; a slice's spare places count too). A statement '..UptoSaid' is the law's where the arguments, and the package variables that the reading takes, are together of bulk at most 1048576: NARROWER than '..Said'. Prove '..Said' where nothing that the law and all that it calls make is longer than what came in: it says more and counts as full. Else prove '..UptoSaid'. A law counts once. -/
mutual
def uptoBulk {H : Type} : DataW H → Nat
  | .lit (.string bytes) => bytes.length + 1
  | .lit _ => 1
  | .nil => 1
  | .ptr d => uptoBulk d + 1
  | .slice elems spare => uptoBulkAll elems + uptoBulkAll spare + 1
  | .agg parts => uptoBulkAll parts + 1
  | .iface _ d => uptoBulk d + 1
  | .map entries => uptoBulkEntries entries + 1
  | .held _ => 1
def uptoBulkAll {H : Type} : List (DataW H) → Nat
  | [] => 0
  | d :: r => uptoBulk d + uptoBulkAll r
def uptoBulkEntries {H : Type} : List (Lit × DataW H) → Nat
  | [] => 0
  | x :: r => uptoBulkEntry x + uptoBulkEntries r
def uptoBulkEntry {H : Type} : Lit × DataW H → Nat
  | (.string bytes, d) => bytes.length + uptoBulk d + 1
  | (_, d) => uptoBulk d + 1
 end
def uptoSmall : (H : Type) → List (DataW H) → Bool := fun _ ds => decide (uptoBulkAll ds ≤ 1048576)
def OpenSpec.upto (s : _root_.Go.ChangeSpec) : _root_.Go.OpenSpec := { _root_.Go.OpenSpec.ofChange s with cond := some uptoSmall }

/-- 'bodkinlaw44.CompareLines', WHERE WHAT IT READS IS OF BULK AT MOST 1048576: true; the input reads as it did. -/
def compareLinesUptoRow : OpenClaim := { program := "ytpbhfbphefmchaadoor", sum := "81b240d24d3dc22a16d24b5e5f541b31e09bde032cc8508a4705071e2e62fc8d", func := "bodkin/bodkinlaw44.CompareLines", spec := "compareLines", inPlace := ["internal/bytealg.CountString", "internal/bytealg.IndexByteString", "internal/bytealg.IndexString"], named := ["bodkin/utf.most", "unicode/utf8.first", "unicode/utf8.acceptRanges", "internal/bytealg.MaxLen"], apart := false, laid := [("unicode/utf8.acceptRanges", laid_unicode_utf8_acceptRanges), ("bodkin/utf.most", laid_bodkin_utf_most), ("unicode/utf8.first", laid_unicode_utf8_first)], narrowed := true }
def CompareLinesUptoSaid : Prop := compareLinesUptoRow.holds Tryd.pinned (OpenSpec.upto compareLinesSpec)

/-- 'bodkinlaw44.CompareEdits', WHERE WHAT IT READS IS OF BULK AT MOST 1048576: true; the input reads as it did. -/
def compareEditsUptoRow : OpenClaim := { program := "ytpbhfbphefmchaadoor", sum := "81b240d24d3dc22a16d24b5e5f541b31e09bde032cc8508a4705071e2e62fc8d", func := "bodkin/bodkinlaw44.CompareEdits", spec := "compareEdits", inPlace := ["internal/bytealg.CountString", "internal/bytealg.IndexByteString", "internal/bytealg.IndexString"], named := ["bodkin/utf.most", "unicode/utf8.first", "unicode/utf8.acceptRanges", "internal/bytealg.MaxLen"], apart := false, laid := [("unicode/utf8.acceptRanges", laid_unicode_utf8_acceptRanges), ("bodkin/utf.most", laid_bodkin_utf_most), ("unicode/utf8.first", laid_unicode_utf8_first)], narrowed := true }
def CompareEditsUptoSaid : Prop := compareEditsUptoRow.holds Tryd.pinned (OpenSpec.upto compareEditsSpec)

/-- 'bodkinlaw44.CompareMakes', WHERE WHAT IT READS IS OF BULK AT MOST 1048576: true; the input reads as it did. -/
def compareMakesUptoRow : OpenClaim := { program := "ytpbhfbphefmchaadoor", sum := "81b240d24d3dc22a16d24b5e5f541b31e09bde032cc8508a4705071e2e62fc8d", func := "bodkin/bodkinlaw44.CompareMakes", spec := "compareMakes", inPlace := ["internal/bytealg.CountString", "internal/bytealg.IndexByteString", "internal/bytealg.IndexString"], named := ["bodkin/utf.most", "unicode/utf8.first", "unicode/utf8.acceptRanges", "internal/bytealg.MaxLen"], apart := false, laid := [("unicode/utf8.acceptRanges", laid_unicode_utf8_acceptRanges), ("bodkin/utf.most", laid_bodkin_utf_most), ("unicode/utf8.first", laid_unicode_utf8_first)], narrowed := true }
def CompareMakesUptoSaid : Prop := compareMakesUptoRow.holds Tryd.pinned (OpenSpec.upto compareMakesSpec)

/-- 'bodkinlaw44.CompareSame', WHERE WHAT IT READS IS OF BULK AT MOST 1048576: true; the input reads as it did. -/
def compareSameUptoRow : OpenClaim := { program := "ytpbhfbphefmchaadoor", sum := "81b240d24d3dc22a16d24b5e5f541b31e09bde032cc8508a4705071e2e62fc8d", func := "bodkin/bodkinlaw44.CompareSame", spec := "compareSame", inPlace := ["internal/bytealg.CountString", "internal/bytealg.IndexByteString", "internal/bytealg.IndexString"], named := ["bodkin/utf.most", "unicode/utf8.first", "unicode/utf8.acceptRanges", "internal/bytealg.MaxLen"], apart := false, laid := [("unicode/utf8.acceptRanges", laid_unicode_utf8_acceptRanges), ("bodkin/utf.most", laid_bodkin_utf_most), ("unicode/utf8.first", laid_unicode_utf8_first)], narrowed := true }
def CompareSameUptoSaid : Prop := compareSameUptoRow.holds Tryd.pinned (OpenSpec.upto compareSameSpec)

/-- 'bodkinlaw44.CompareNone', WHERE WHAT IT READS IS OF BULK AT MOST 1048576: true; the input reads as it did. -/
def compareNoneUptoRow : OpenClaim := { program := "ytpbhfbphefmchaadoor", sum := "81b240d24d3dc22a16d24b5e5f541b31e09bde032cc8508a4705071e2e62fc8d", func := "bodkin/bodkinlaw44.CompareNone", spec := "compareNone", inPlace := ["internal/bytealg.CountString", "internal/bytealg.IndexByteString", "internal/bytealg.IndexString"], named := ["bodkin/utf.most", "unicode/utf8.first", "unicode/utf8.acceptRanges", "internal/bytealg.MaxLen"], apart := false, laid := [("unicode/utf8.acceptRanges", laid_unicode_utf8_acceptRanges), ("bodkin/utf.most", laid_bodkin_utf_most), ("unicode/utf8.first", laid_unicode_utf8_first)], narrowed := true }
def CompareNoneUptoSaid : Prop := compareNoneUptoRow.holds Tryd.pinned (OpenSpec.upto compareNoneSpec)

end Rows
end Go.Proofs.YtpbhfbphefmchaaDoor
