/-
  NARROWER THAN 'FOR EVERY INPUT', by the rows' own cells (each row's printed sentence says how): UtfEncodes: laid · UtfApart: laid · UtfPrints: laid · UtfDecodes: laid · UtfTurned: laid · UtfBack: laid · UtfBoth: laid · RowsReads: laid · RowsNotes: laid · RowsAgain: laid · RowsBoth: laid · RowsBelow: laid · RowsBack: laid · RowsWrites: laid · BlockLays: laid · BlockBack: laid.
  DERIVED. THE GIVEN ROWS OF THIS SEAT. 16 by the template 'for every input the law returns true; each argument reads behind the call as it read before'; 0 by the template 'total and deterministic' (their statements: YtnggbhpnpomfjaaDoorTotals.lean).
  GIVEN WITH THE SEED: the statements are not yours to turn. If you find one false, say at which input.
  Laid BY PROGRAM, IN A SANDBOX (cutbox-rows.mjs): the forced cells as the released guide's own fill.sh prints them over the translation 3e1c7d09ead6d58a… (all of the seat's roots in one cut). By AI agents, Wed Nov 11 2026. No macro, syntax, notation, axiom, sorry.
-/
import Derived.Test.YtnggbhpnpomfjaaDoorChecked
import GoSem.PinnedTables
import GoSem.Claim
import GoSem.ClaimJoined
import GoSem.ClaimMapViews
import Derived.JoinedTies
import Derived.KernelRfl
namespace Go.Proofs.YtnggbhpnpomfjaaDoor
/- THE CELL 'sum', in the pinned program and in every row, IS THE sha256 OF THE DUMP (.gsa) THAT YtnggbhpnpomfjaaDoorProg.lean LOADS. Nothing in Lean hashes anything: it is a label: what it is worth is what the hold of that sum in a sandbox is worth. -/
noncomputable def Tryd.pinned : Pinned := { name := "ytnggbhpnpomfjaadoor", sum := "3e1c7d09ead6d58a27f0c93af7b32d1e61349b1bbb3fb0b9f306cfbd8747563b", checked := Tryd.checked }
namespace Rows
def none {H : Type} : Left H := { results := [], args := [] }

/- WHAT THE LISTED PACKAGE-LEVEL VARIABLES READ AS WHEN THE CALL BEGINS. Each datum BY PROGRAM (the guide's laid-datum.mjs) off the statement by which the dump's own 'gosem.cut.vars' lays the variable. In a bare row this is a premise. The card (YtnggbhpnpomfjaaDoorCards.lean) ties it to the program's text. -/
def laid_unicode_utf8_acceptRanges {H : Type} : DataW H := .agg [.agg [.lit (.int .u8 128), .lit (.int .u8 191)], .agg [.lit (.int .u8 160), .lit (.int .u8 191)], .agg [.lit (.int .u8 128), .lit (.int .u8 159)], .agg [.lit (.int .u8 144), .lit (.int .u8 191)], .agg [.lit (.int .u8 128), .lit (.int .u8 143)], .agg [.lit (.int .u8 0), .lit (.int .u8 0)], .agg [.lit (.int .u8 0), .lit (.int .u8 0)], .agg [.lit (.int .u8 0), .lit (.int .u8 0)], .agg [.lit (.int .u8 0), .lit (.int .u8 0)], .agg [.lit (.int .u8 0), .lit (.int .u8 0)], .agg [.lit (.int .u8 0), .lit (.int .u8 0)], .agg [.lit (.int .u8 0), .lit (.int .u8 0)], .agg [.lit (.int .u8 0), .lit (.int .u8 0)], .agg [.lit (.int .u8 0), .lit (.int .u8 0)], .agg [.lit (.int .u8 0), .lit (.int .u8 0)], .agg [.lit (.int .u8 0), .lit (.int .u8 0)]]
/-- One of Go's own tables, pinned by name: the form's constant. -/
def laid_unicode_utf8_first : DataW Unit := Go.Pinned.utf8First

/-- 'grommetlaw01.UtfEncodes': WHATEVER THE INPUT: true; the input reads as it did. -/
def utfEncodesSpec : ChangeSpec := { name := "utfEncodes", fn := fun _ => fun
  | [d] => { results := [.lit (.bool true)], args := [d] }
  | _ => none }
def utfEncodesRow : OpenClaim := { program := "ytnggbhpnpomfjaadoor", sum := "3e1c7d09ead6d58a27f0c93af7b32d1e61349b1bbb3fb0b9f306cfbd8747563b", func := "grommet/grommetlaw01.UtfEncodes", spec := "utfEncodes", inPlace := ["internal/abi.NoEscape"], named := ["unicode/utf8.first", "unicode/utf8.acceptRanges"], apart := false, laid := [("unicode/utf8.acceptRanges", laid_unicode_utf8_acceptRanges), ("unicode/utf8.first", laid_unicode_utf8_first)] }
def UtfEncodesSaid : Prop := utfEncodesRow.holds Tryd.pinned (OpenSpec.ofChange utfEncodesSpec)

/-- ITS FALSE NEIGHBOUR: 'it returns false'. Refute it at one input. -/
def utfEncodesWrong : ChangeSpec := { name := "utfEncodes", fn := fun _ => fun
  | [d] => { results := [.lit (.bool false)], args := [d] }
  | _ => none }
def UtfEncodesWrongFalsely : Prop := utfEncodesRow.holds Tryd.pinned (OpenSpec.ofChange utfEncodesWrong)

/-- 'grommetlaw01.UtfApart': WHATEVER THE INPUT: true; the input reads as it did. -/
def utfApartSpec : ChangeSpec := { name := "utfApart", fn := fun _ => fun
  | [d1, d2] => { results := [.lit (.bool true)], args := [d1, d2] }
  | _ => none }
def utfApartRow : OpenClaim := { program := "ytnggbhpnpomfjaadoor", sum := "3e1c7d09ead6d58a27f0c93af7b32d1e61349b1bbb3fb0b9f306cfbd8747563b", func := "grommet/grommetlaw01.UtfApart", spec := "utfApart", inPlace := ["internal/abi.NoEscape"], named := ["unicode/utf8.first", "unicode/utf8.acceptRanges"], apart := false, laid := [("unicode/utf8.acceptRanges", laid_unicode_utf8_acceptRanges), ("unicode/utf8.first", laid_unicode_utf8_first)] }
def UtfApartSaid : Prop := utfApartRow.holds Tryd.pinned (OpenSpec.ofChange utfApartSpec)

/-- ITS FALSE NEIGHBOUR: 'it returns false'. Refute it at one input. -/
def utfApartWrong : ChangeSpec := { name := "utfApart", fn := fun _ => fun
  | [d1, d2] => { results := [.lit (.bool false)], args := [d1, d2] }
  | _ => none }
def UtfApartWrongFalsely : Prop := utfApartRow.holds Tryd.pinned (OpenSpec.ofChange utfApartWrong)

/-- 'grommetlaw01.UtfPrints': WHATEVER THE INPUT: true; the input reads as it did. -/
def utfPrintsSpec : ChangeSpec := { name := "utfPrints", fn := fun _ => fun
  | [d1, d2] => { results := [.lit (.bool true)], args := [d1, d2] }
  | _ => none }
def utfPrintsRow : OpenClaim := { program := "ytnggbhpnpomfjaadoor", sum := "3e1c7d09ead6d58a27f0c93af7b32d1e61349b1bbb3fb0b9f306cfbd8747563b", func := "grommet/grommetlaw01.UtfPrints", spec := "utfPrints", inPlace := ["internal/abi.NoEscape"], unfollowed := true, recurses := true, named := ["unicode/utf8.first", "unicode/utf8.acceptRanges"], apart := false, laid := [("unicode/utf8.acceptRanges", laid_unicode_utf8_acceptRanges), ("unicode/utf8.first", laid_unicode_utf8_first)] }
def UtfPrintsSaid : Prop := utfPrintsRow.holds Tryd.pinned (OpenSpec.ofChange utfPrintsSpec)

/-- ITS FALSE NEIGHBOUR: 'it returns false'. Refute it at one input. -/
def utfPrintsWrong : ChangeSpec := { name := "utfPrints", fn := fun _ => fun
  | [d1, d2] => { results := [.lit (.bool false)], args := [d1, d2] }
  | _ => none }
def UtfPrintsWrongFalsely : Prop := utfPrintsRow.holds Tryd.pinned (OpenSpec.ofChange utfPrintsWrong)

/-- 'grommetlaw01.UtfDecodes': WHATEVER THE INPUT: true; the input reads as it did. -/
def utfDecodesSpec : ChangeSpec := { name := "utfDecodes", fn := fun _ => fun
  | [d] => { results := [.lit (.bool true)], args := [d] }
  | _ => none }
def utfDecodesRow : OpenClaim := { program := "ytnggbhpnpomfjaadoor", sum := "3e1c7d09ead6d58a27f0c93af7b32d1e61349b1bbb3fb0b9f306cfbd8747563b", func := "grommet/grommetlaw01.UtfDecodes", spec := "utfDecodes", inPlace := ["internal/abi.NoEscape"], unfollowed := true, recurses := true, named := ["unicode/utf8.first", "unicode/utf8.acceptRanges"], apart := false, laid := [("unicode/utf8.acceptRanges", laid_unicode_utf8_acceptRanges), ("unicode/utf8.first", laid_unicode_utf8_first)] }
def UtfDecodesSaid : Prop := utfDecodesRow.holds Tryd.pinned (OpenSpec.ofChange utfDecodesSpec)

/-- ITS FALSE NEIGHBOUR: 'it returns false'. Refute it at one input. -/
def utfDecodesWrong : ChangeSpec := { name := "utfDecodes", fn := fun _ => fun
  | [d] => { results := [.lit (.bool false)], args := [d] }
  | _ => none }
def UtfDecodesWrongFalsely : Prop := utfDecodesRow.holds Tryd.pinned (OpenSpec.ofChange utfDecodesWrong)

/-- 'grommetlaw01.UtfTurned': WHATEVER THE INPUT: true; the input reads as it did. -/
def utfTurnedSpec : ChangeSpec := { name := "utfTurned", fn := fun _ => fun
  | [d] => { results := [.lit (.bool true)], args := [d] }
  | _ => none }
def utfTurnedRow : OpenClaim := { program := "ytnggbhpnpomfjaadoor", sum := "3e1c7d09ead6d58a27f0c93af7b32d1e61349b1bbb3fb0b9f306cfbd8747563b", func := "grommet/grommetlaw01.UtfTurned", spec := "utfTurned", inPlace := ["internal/abi.NoEscape"], unfollowed := true, recurses := true, named := ["unicode/utf8.first", "unicode/utf8.acceptRanges"], apart := false, laid := [("unicode/utf8.acceptRanges", laid_unicode_utf8_acceptRanges), ("unicode/utf8.first", laid_unicode_utf8_first)] }
def UtfTurnedSaid : Prop := utfTurnedRow.holds Tryd.pinned (OpenSpec.ofChange utfTurnedSpec)

/-- ITS FALSE NEIGHBOUR: 'it returns false'. Refute it at one input. -/
def utfTurnedWrong : ChangeSpec := { name := "utfTurned", fn := fun _ => fun
  | [d] => { results := [.lit (.bool false)], args := [d] }
  | _ => none }
def UtfTurnedWrongFalsely : Prop := utfTurnedRow.holds Tryd.pinned (OpenSpec.ofChange utfTurnedWrong)

/-- 'grommetlaw01.UtfBack': WHATEVER THE INPUT: true; the input reads as it did. -/
def utfBackSpec : ChangeSpec := { name := "utfBack", fn := fun _ => fun
  | [d] => { results := [.lit (.bool true)], args := [d] }
  | _ => none }
def utfBackRow : OpenClaim := { program := "ytnggbhpnpomfjaadoor", sum := "3e1c7d09ead6d58a27f0c93af7b32d1e61349b1bbb3fb0b9f306cfbd8747563b", func := "grommet/grommetlaw01.UtfBack", spec := "utfBack", inPlace := ["internal/abi.NoEscape"], unfollowed := true, recurses := true, named := ["unicode/utf8.first", "unicode/utf8.acceptRanges"], apart := false, laid := [("unicode/utf8.acceptRanges", laid_unicode_utf8_acceptRanges), ("unicode/utf8.first", laid_unicode_utf8_first)] }
def UtfBackSaid : Prop := utfBackRow.holds Tryd.pinned (OpenSpec.ofChange utfBackSpec)

/-- ITS FALSE NEIGHBOUR: 'it returns false'. Refute it at one input. -/
def utfBackWrong : ChangeSpec := { name := "utfBack", fn := fun _ => fun
  | [d] => { results := [.lit (.bool false)], args := [d] }
  | _ => none }
def UtfBackWrongFalsely : Prop := utfBackRow.holds Tryd.pinned (OpenSpec.ofChange utfBackWrong)

/-- 'grommetlaw01.UtfBoth': WHATEVER THE INPUT: true; the input reads as it did. -/
def utfBothSpec : ChangeSpec := { name := "utfBoth", fn := fun _ => fun
  | [d1, d2] => { results := [.lit (.bool true)], args := [d1, d2] }
  | _ => none }
def utfBothRow : OpenClaim := { program := "ytnggbhpnpomfjaadoor", sum := "3e1c7d09ead6d58a27f0c93af7b32d1e61349b1bbb3fb0b9f306cfbd8747563b", func := "grommet/grommetlaw01.UtfBoth", spec := "utfBoth", inPlace := ["internal/abi.NoEscape"], unfollowed := true, recurses := true, named := ["unicode/utf8.first", "unicode/utf8.acceptRanges"], apart := false, laid := [("unicode/utf8.acceptRanges", laid_unicode_utf8_acceptRanges), ("unicode/utf8.first", laid_unicode_utf8_first)] }
def UtfBothSaid : Prop := utfBothRow.holds Tryd.pinned (OpenSpec.ofChange utfBothSpec)

/-- ITS FALSE NEIGHBOUR: 'it returns false'. Refute it at one input. -/
def utfBothWrong : ChangeSpec := { name := "utfBoth", fn := fun _ => fun
  | [d1, d2] => { results := [.lit (.bool false)], args := [d1, d2] }
  | _ => none }
def UtfBothWrongFalsely : Prop := utfBothRow.holds Tryd.pinned (OpenSpec.ofChange utfBothWrong)

/-- 'grommetlaw02.RowsReads': WHATEVER THE INPUT: true; the input reads as it did. -/
def rowsReadsSpec : ChangeSpec := { name := "rowsReads", fn := fun _ => fun
  | [d] => { results := [.lit (.bool true)], args := [d] }
  | _ => none }
def rowsReadsRow : OpenClaim := { program := "ytnggbhpnpomfjaadoor", sum := "3e1c7d09ead6d58a27f0c93af7b32d1e61349b1bbb3fb0b9f306cfbd8747563b", func := "grommet/grommetlaw02.RowsReads", spec := "rowsReads", inPlace := ["internal/bytealg.IndexByteString", "internal/bytealg.IndexString"], unfollowed := true, recurses := true, named := ["unicode/utf8.first", "unicode/utf8.acceptRanges", "internal/bytealg.MaxLen"], apart := false, laid := [("unicode/utf8.acceptRanges", laid_unicode_utf8_acceptRanges), ("unicode/utf8.first", laid_unicode_utf8_first)] }
def RowsReadsSaid : Prop := rowsReadsRow.holds Tryd.pinned (OpenSpec.ofChange rowsReadsSpec)

/-- ITS FALSE NEIGHBOUR: 'it returns false'. Refute it at one input. -/
def rowsReadsWrong : ChangeSpec := { name := "rowsReads", fn := fun _ => fun
  | [d] => { results := [.lit (.bool false)], args := [d] }
  | _ => none }
def RowsReadsWrongFalsely : Prop := rowsReadsRow.holds Tryd.pinned (OpenSpec.ofChange rowsReadsWrong)

/-- 'grommetlaw02.RowsNotes': WHATEVER THE INPUT: true; the input reads as it did. -/
def rowsNotesSpec : ChangeSpec := { name := "rowsNotes", fn := fun _ => fun
  | [d] => { results := [.lit (.bool true)], args := [d] }
  | _ => none }
def rowsNotesRow : OpenClaim := { program := "ytnggbhpnpomfjaadoor", sum := "3e1c7d09ead6d58a27f0c93af7b32d1e61349b1bbb3fb0b9f306cfbd8747563b", func := "grommet/grommetlaw02.RowsNotes", spec := "rowsNotes", inPlace := ["internal/bytealg.IndexByteString", "internal/bytealg.IndexString"], unfollowed := true, recurses := true, named := ["unicode/utf8.first", "unicode/utf8.acceptRanges", "internal/bytealg.MaxLen"], apart := false, laid := [("unicode/utf8.acceptRanges", laid_unicode_utf8_acceptRanges), ("unicode/utf8.first", laid_unicode_utf8_first)] }
def RowsNotesSaid : Prop := rowsNotesRow.holds Tryd.pinned (OpenSpec.ofChange rowsNotesSpec)

/-- ITS FALSE NEIGHBOUR: 'it returns false'. Refute it at one input. -/
def rowsNotesWrong : ChangeSpec := { name := "rowsNotes", fn := fun _ => fun
  | [d] => { results := [.lit (.bool false)], args := [d] }
  | _ => none }
def RowsNotesWrongFalsely : Prop := rowsNotesRow.holds Tryd.pinned (OpenSpec.ofChange rowsNotesWrong)

/-- 'grommetlaw02.RowsAgain': WHATEVER THE INPUT: true; the input reads as it did. -/
def rowsAgainSpec : ChangeSpec := { name := "rowsAgain", fn := fun _ => fun
  | [d] => { results := [.lit (.bool true)], args := [d] }
  | _ => none }
def rowsAgainRow : OpenClaim := { program := "ytnggbhpnpomfjaadoor", sum := "3e1c7d09ead6d58a27f0c93af7b32d1e61349b1bbb3fb0b9f306cfbd8747563b", func := "grommet/grommetlaw02.RowsAgain", spec := "rowsAgain", inPlace := ["internal/bytealg.IndexByteString", "internal/bytealg.IndexString"], unfollowed := true, recurses := true, named := ["unicode/utf8.first", "unicode/utf8.acceptRanges", "internal/bytealg.MaxLen"], apart := false, laid := [("unicode/utf8.acceptRanges", laid_unicode_utf8_acceptRanges), ("unicode/utf8.first", laid_unicode_utf8_first)] }
def RowsAgainSaid : Prop := rowsAgainRow.holds Tryd.pinned (OpenSpec.ofChange rowsAgainSpec)

/-- ITS FALSE NEIGHBOUR: 'it returns false'. Refute it at one input. -/
def rowsAgainWrong : ChangeSpec := { name := "rowsAgain", fn := fun _ => fun
  | [d] => { results := [.lit (.bool false)], args := [d] }
  | _ => none }
def RowsAgainWrongFalsely : Prop := rowsAgainRow.holds Tryd.pinned (OpenSpec.ofChange rowsAgainWrong)

/-- 'grommetlaw02.RowsBoth': WHATEVER THE INPUT: true; the input reads as it did. -/
def rowsBothSpec : ChangeSpec := { name := "rowsBoth", fn := fun _ => fun
  | [d1, d2] => { results := [.lit (.bool true)], args := [d1, d2] }
  | _ => none }
def rowsBothRow : OpenClaim := { program := "ytnggbhpnpomfjaadoor", sum := "3e1c7d09ead6d58a27f0c93af7b32d1e61349b1bbb3fb0b9f306cfbd8747563b", func := "grommet/grommetlaw02.RowsBoth", spec := "rowsBoth", inPlace := ["internal/bytealg.IndexByteString", "internal/bytealg.IndexString"], unfollowed := true, recurses := true, named := ["unicode/utf8.first", "unicode/utf8.acceptRanges", "internal/bytealg.MaxLen"], apart := false, laid := [("unicode/utf8.acceptRanges", laid_unicode_utf8_acceptRanges), ("unicode/utf8.first", laid_unicode_utf8_first)] }
def RowsBothSaid : Prop := rowsBothRow.holds Tryd.pinned (OpenSpec.ofChange rowsBothSpec)

/-- ITS FALSE NEIGHBOUR: 'it returns false'. Refute it at one input. -/
def rowsBothWrong : ChangeSpec := { name := "rowsBoth", fn := fun _ => fun
  | [d1, d2] => { results := [.lit (.bool false)], args := [d1, d2] }
  | _ => none }
def RowsBothWrongFalsely : Prop := rowsBothRow.holds Tryd.pinned (OpenSpec.ofChange rowsBothWrong)

/-- 'grommetlaw02.RowsBelow': WHATEVER THE INPUT: true; the input reads as it did. -/
def rowsBelowSpec : ChangeSpec := { name := "rowsBelow", fn := fun _ => fun
  | [d1, d2] => { results := [.lit (.bool true)], args := [d1, d2] }
  | _ => none }
def rowsBelowRow : OpenClaim := { program := "ytnggbhpnpomfjaadoor", sum := "3e1c7d09ead6d58a27f0c93af7b32d1e61349b1bbb3fb0b9f306cfbd8747563b", func := "grommet/grommetlaw02.RowsBelow", spec := "rowsBelow", inPlace := ["internal/bytealg.IndexByteString", "internal/bytealg.IndexString"], unfollowed := true, recurses := true, named := ["unicode/utf8.first", "unicode/utf8.acceptRanges", "internal/bytealg.MaxLen"], apart := false, laid := [("unicode/utf8.acceptRanges", laid_unicode_utf8_acceptRanges), ("unicode/utf8.first", laid_unicode_utf8_first)] }
def RowsBelowSaid : Prop := rowsBelowRow.holds Tryd.pinned (OpenSpec.ofChange rowsBelowSpec)

/-- ITS FALSE NEIGHBOUR: 'it returns false'. Refute it at one input. -/
def rowsBelowWrong : ChangeSpec := { name := "rowsBelow", fn := fun _ => fun
  | [d1, d2] => { results := [.lit (.bool false)], args := [d1, d2] }
  | _ => none }
def RowsBelowWrongFalsely : Prop := rowsBelowRow.holds Tryd.pinned (OpenSpec.ofChange rowsBelowWrong)

/-- 'grommetlaw02.RowsBack': WHATEVER THE INPUT: true; the input reads as it did. -/
def rowsBackSpec : ChangeSpec := { name := "rowsBack", fn := fun _ => fun
  | [d] => { results := [.lit (.bool true)], args := [d] }
  | _ => none }
def rowsBackRow : OpenClaim := { program := "ytnggbhpnpomfjaadoor", sum := "3e1c7d09ead6d58a27f0c93af7b32d1e61349b1bbb3fb0b9f306cfbd8747563b", func := "grommet/grommetlaw02.RowsBack", spec := "rowsBack", inPlace := ["internal/bytealg.IndexByteString", "internal/bytealg.IndexString", "internal/abi.NoEscape", "internal/bytealg.MakeNoZero"], unfollowed := true, recurses := true, named := ["unicode/utf8.first", "unicode/utf8.acceptRanges", "internal/bytealg.MaxLen"], apart := false, laid := [("unicode/utf8.acceptRanges", laid_unicode_utf8_acceptRanges), ("unicode/utf8.first", laid_unicode_utf8_first)] }
def RowsBackSaid : Prop := rowsBackRow.holds Tryd.pinned (OpenSpec.ofChange rowsBackSpec)

/-- ITS FALSE NEIGHBOUR: 'it returns false'. Refute it at one input. -/
def rowsBackWrong : ChangeSpec := { name := "rowsBack", fn := fun _ => fun
  | [d] => { results := [.lit (.bool false)], args := [d] }
  | _ => none }
def RowsBackWrongFalsely : Prop := rowsBackRow.holds Tryd.pinned (OpenSpec.ofChange rowsBackWrong)

/-- 'grommetlaw02.RowsWrites': WHATEVER THE INPUT: true; the input reads as it did. -/
def rowsWritesSpec : ChangeSpec := { name := "rowsWrites", fn := fun _ => fun
  | [d1, d2, d3] => { results := [.lit (.bool true)], args := [d1, d2, d3] }
  | _ => none }
def rowsWritesRow : OpenClaim := { program := "ytnggbhpnpomfjaadoor", sum := "3e1c7d09ead6d58a27f0c93af7b32d1e61349b1bbb3fb0b9f306cfbd8747563b", func := "grommet/grommetlaw02.RowsWrites", spec := "rowsWrites", inPlace := ["internal/bytealg.IndexByteString", "internal/bytealg.IndexString", "internal/abi.NoEscape", "internal/bytealg.MakeNoZero"], unfollowed := true, recurses := true, named := ["unicode/utf8.first", "unicode/utf8.acceptRanges", "internal/bytealg.MaxLen"], apart := false, laid := [("unicode/utf8.acceptRanges", laid_unicode_utf8_acceptRanges), ("unicode/utf8.first", laid_unicode_utf8_first)] }
def RowsWritesSaid : Prop := rowsWritesRow.holds Tryd.pinned (OpenSpec.ofChange rowsWritesSpec)

/-- ITS FALSE NEIGHBOUR: 'it returns false'. Refute it at one input. -/
def rowsWritesWrong : ChangeSpec := { name := "rowsWrites", fn := fun _ => fun
  | [d1, d2, d3] => { results := [.lit (.bool false)], args := [d1, d2, d3] }
  | _ => none }
def RowsWritesWrongFalsely : Prop := rowsWritesRow.holds Tryd.pinned (OpenSpec.ofChange rowsWritesWrong)

/-- 'grommetlaw08.BlockLays': WHATEVER THE INPUT: true; the input reads as it did. -/
def blockLaysSpec : ChangeSpec := { name := "blockLays", fn := fun _ => fun
  | [d] => { results := [.lit (.bool true)], args := [d] }
  | _ => none }
def blockLaysRow : OpenClaim := { program := "ytnggbhpnpomfjaadoor", sum := "3e1c7d09ead6d58a27f0c93af7b32d1e61349b1bbb3fb0b9f306cfbd8747563b", func := "grommet/grommetlaw08.BlockLays", spec := "blockLays", inPlace := ["internal/abi.NoEscape", "internal/bytealg.MakeNoZero", "internal/bytealg.IndexByteString", "internal/bytealg.IndexString", "internal/bytealg.CountString"], unfollowed := true, recurses := true, named := ["unicode/utf8.first", "unicode/utf8.acceptRanges", "internal/bytealg.MaxLen"], apart := false, laid := [("unicode/utf8.acceptRanges", laid_unicode_utf8_acceptRanges), ("unicode/utf8.first", laid_unicode_utf8_first)] }
def BlockLaysSaid : Prop := blockLaysRow.holds Tryd.pinned (OpenSpec.ofChange blockLaysSpec)

/-- ITS FALSE NEIGHBOUR: 'it returns false'. Refute it at one input. -/
def blockLaysWrong : ChangeSpec := { name := "blockLays", fn := fun _ => fun
  | [d] => { results := [.lit (.bool false)], args := [d] }
  | _ => none }
def BlockLaysWrongFalsely : Prop := blockLaysRow.holds Tryd.pinned (OpenSpec.ofChange blockLaysWrong)

/-- 'grommetlaw08.BlockBack': WHATEVER THE INPUT: true; the input reads as it did. -/
def blockBackSpec : ChangeSpec := { name := "blockBack", fn := fun _ => fun
  | [d1, d2, d3] => { results := [.lit (.bool true)], args := [d1, d2, d3] }
  | _ => none }
def blockBackRow : OpenClaim := { program := "ytnggbhpnpomfjaadoor", sum := "3e1c7d09ead6d58a27f0c93af7b32d1e61349b1bbb3fb0b9f306cfbd8747563b", func := "grommet/grommetlaw08.BlockBack", spec := "blockBack", inPlace := ["internal/abi.NoEscape", "internal/bytealg.MakeNoZero", "internal/bytealg.IndexByteString", "internal/bytealg.IndexString", "internal/bytealg.CountString"], unfollowed := true, recurses := true, named := ["unicode/utf8.first", "unicode/utf8.acceptRanges", "internal/bytealg.MaxLen"], apart := false, laid := [("unicode/utf8.acceptRanges", laid_unicode_utf8_acceptRanges), ("unicode/utf8.first", laid_unicode_utf8_first)] }
def BlockBackSaid : Prop := blockBackRow.holds Tryd.pinned (OpenSpec.ofChange blockBackSpec)

/-- ITS FALSE NEIGHBOUR: 'it returns false'. Refute it at one input. -/
def blockBackWrong : ChangeSpec := { name := "blockBack", fn := fun _ => fun
  | [d1, d2, d3] => { results := [.lit (.bool false)], args := [d1, d2, d3] }
  | _ => none }
def BlockBackWrongFalsely : Prop := blockBackRow.holds Tryd.pinned (OpenSpec.ofChange blockBackWrong)

/- THE SECOND FORM. 'bulk': how many values and letters a reading holds, each counted each time it is reached (what is shared counts as often as it is met; a slice's spare places count too). A statement '..UptoSaid' is the law's where the arguments, and the package variables that the reading takes, are together of bulk at most 1048576: NARROWER than '..Said'. Prove '..Said' where nothing that the law and all that it calls make is longer than what came in: it says more and counts as full. Else prove '..UptoSaid'. A law counts once. -/
mutual
def uptoBulk {H : Type} : DataW H → Nat
  | .lit (.string bytes) => bytes.length + 1
  | .lit _ => 1
  | .nil => 1
  | .ptr d => uptoBulk d + 1
  | .slice elems spare => uptoBulkAll elems + uptoBulkAll spare + 1
  | .agg parts => uptoBulkAll parts + 1
  | .iface _ d => uptoBulk d + 1
  | .map entries => uptoBulkEntries entries + 1
  | .held _ => 1
def uptoBulkAll {H : Type} : List (DataW H) → Nat
  | [] => 0
  | d :: r => uptoBulk d + uptoBulkAll r
def uptoBulkEntries {H : Type} : List (Lit × DataW H) → Nat
  | [] => 0
  | x :: r => uptoBulkEntry x + uptoBulkEntries r
def uptoBulkEntry {H : Type} : Lit × DataW H → Nat
  | (.string bytes, d) => bytes.length + uptoBulk d + 1
  | (_, d) => uptoBulk d + 1
 end
def uptoSmall : (H : Type) → List (DataW H) → Bool := fun _ ds => decide (uptoBulkAll ds ≤ 1048576)
def OpenSpec.upto (s : _root_.Go.ChangeSpec) : _root_.Go.OpenSpec := { _root_.Go.OpenSpec.ofChange s with cond := some uptoSmall }

/-- 'grommetlaw01.UtfEncodes', WHERE WHAT IT READS IS OF BULK AT MOST 1048576: true; the input reads as it did. -/
def utfEncodesUptoRow : OpenClaim := { program := "ytnggbhpnpomfjaadoor", sum := "3e1c7d09ead6d58a27f0c93af7b32d1e61349b1bbb3fb0b9f306cfbd8747563b", func := "grommet/grommetlaw01.UtfEncodes", spec := "utfEncodes", inPlace := ["internal/abi.NoEscape"], named := ["unicode/utf8.first", "unicode/utf8.acceptRanges"], apart := false, laid := [("unicode/utf8.acceptRanges", laid_unicode_utf8_acceptRanges), ("unicode/utf8.first", laid_unicode_utf8_first)], narrowed := true }
def UtfEncodesUptoSaid : Prop := utfEncodesUptoRow.holds Tryd.pinned (OpenSpec.upto utfEncodesSpec)

/-- 'grommetlaw01.UtfApart', WHERE WHAT IT READS IS OF BULK AT MOST 1048576: true; the input reads as it did. -/
def utfApartUptoRow : OpenClaim := { program := "ytnggbhpnpomfjaadoor", sum := "3e1c7d09ead6d58a27f0c93af7b32d1e61349b1bbb3fb0b9f306cfbd8747563b", func := "grommet/grommetlaw01.UtfApart", spec := "utfApart", inPlace := ["internal/abi.NoEscape"], named := ["unicode/utf8.first", "unicode/utf8.acceptRanges"], apart := false, laid := [("unicode/utf8.acceptRanges", laid_unicode_utf8_acceptRanges), ("unicode/utf8.first", laid_unicode_utf8_first)], narrowed := true }
def UtfApartUptoSaid : Prop := utfApartUptoRow.holds Tryd.pinned (OpenSpec.upto utfApartSpec)

/-- 'grommetlaw01.UtfPrints', WHERE WHAT IT READS IS OF BULK AT MOST 1048576: true; the input reads as it did. -/
def utfPrintsUptoRow : OpenClaim := { program := "ytnggbhpnpomfjaadoor", sum := "3e1c7d09ead6d58a27f0c93af7b32d1e61349b1bbb3fb0b9f306cfbd8747563b", func := "grommet/grommetlaw01.UtfPrints", spec := "utfPrints", inPlace := ["internal/abi.NoEscape"], unfollowed := true, recurses := true, named := ["unicode/utf8.first", "unicode/utf8.acceptRanges"], apart := false, laid := [("unicode/utf8.acceptRanges", laid_unicode_utf8_acceptRanges), ("unicode/utf8.first", laid_unicode_utf8_first)], narrowed := true }
def UtfPrintsUptoSaid : Prop := utfPrintsUptoRow.holds Tryd.pinned (OpenSpec.upto utfPrintsSpec)

/-- 'grommetlaw01.UtfDecodes', WHERE WHAT IT READS IS OF BULK AT MOST 1048576: true; the input reads as it did. -/
def utfDecodesUptoRow : OpenClaim := { program := "ytnggbhpnpomfjaadoor", sum := "3e1c7d09ead6d58a27f0c93af7b32d1e61349b1bbb3fb0b9f306cfbd8747563b", func := "grommet/grommetlaw01.UtfDecodes", spec := "utfDecodes", inPlace := ["internal/abi.NoEscape"], unfollowed := true, recurses := true, named := ["unicode/utf8.first", "unicode/utf8.acceptRanges"], apart := false, laid := [("unicode/utf8.acceptRanges", laid_unicode_utf8_acceptRanges), ("unicode/utf8.first", laid_unicode_utf8_first)], narrowed := true }
def UtfDecodesUptoSaid : Prop := utfDecodesUptoRow.holds Tryd.pinned (OpenSpec.upto utfDecodesSpec)

/-- 'grommetlaw01.UtfTurned', WHERE WHAT IT READS IS OF BULK AT MOST 1048576: true; the input reads as it did. -/
def utfTurnedUptoRow : OpenClaim := { program := "ytnggbhpnpomfjaadoor", sum := "3e1c7d09ead6d58a27f0c93af7b32d1e61349b1bbb3fb0b9f306cfbd8747563b", func := "grommet/grommetlaw01.UtfTurned", spec := "utfTurned", inPlace := ["internal/abi.NoEscape"], unfollowed := true, recurses := true, named := ["unicode/utf8.first", "unicode/utf8.acceptRanges"], apart := false, laid := [("unicode/utf8.acceptRanges", laid_unicode_utf8_acceptRanges), ("unicode/utf8.first", laid_unicode_utf8_first)], narrowed := true }
def UtfTurnedUptoSaid : Prop := utfTurnedUptoRow.holds Tryd.pinned (OpenSpec.upto utfTurnedSpec)

/-- 'grommetlaw01.UtfBack', WHERE WHAT IT READS IS OF BULK AT MOST 1048576: true; the input reads as it did. -/
def utfBackUptoRow : OpenClaim := { program := "ytnggbhpnpomfjaadoor", sum := "3e1c7d09ead6d58a27f0c93af7b32d1e61349b1bbb3fb0b9f306cfbd8747563b", func := "grommet/grommetlaw01.UtfBack", spec := "utfBack", inPlace := ["internal/abi.NoEscape"], unfollowed := true, recurses := true, named := ["unicode/utf8.first", "unicode/utf8.acceptRanges"], apart := false, laid := [("unicode/utf8.acceptRanges", laid_unicode_utf8_acceptRanges), ("unicode/utf8.first", laid_unicode_utf8_first)], narrowed := true }
def UtfBackUptoSaid : Prop := utfBackUptoRow.holds Tryd.pinned (OpenSpec.upto utfBackSpec)

/-- 'grommetlaw01.UtfBoth', WHERE WHAT IT READS IS OF BULK AT MOST 1048576: true; the input reads as it did. -/
def utfBothUptoRow : OpenClaim := { program := "ytnggbhpnpomfjaadoor", sum := "3e1c7d09ead6d58a27f0c93af7b32d1e61349b1bbb3fb0b9f306cfbd8747563b", func := "grommet/grommetlaw01.UtfBoth", spec := "utfBoth", inPlace := ["internal/abi.NoEscape"], unfollowed := true, recurses := true, named := ["unicode/utf8.first", "unicode/utf8.acceptRanges"], apart := false, laid := [("unicode/utf8.acceptRanges", laid_unicode_utf8_acceptRanges), ("unicode/utf8.first", laid_unicode_utf8_first)], narrowed := true }
def UtfBothUptoSaid : Prop := utfBothUptoRow.holds Tryd.pinned (OpenSpec.upto utfBothSpec)

/-- 'grommetlaw02.RowsReads', WHERE WHAT IT READS IS OF BULK AT MOST 1048576: true; the input reads as it did. -/
def rowsReadsUptoRow : OpenClaim := { program := "ytnggbhpnpomfjaadoor", sum := "3e1c7d09ead6d58a27f0c93af7b32d1e61349b1bbb3fb0b9f306cfbd8747563b", func := "grommet/grommetlaw02.RowsReads", spec := "rowsReads", inPlace := ["internal/bytealg.IndexByteString", "internal/bytealg.IndexString"], unfollowed := true, recurses := true, named := ["unicode/utf8.first", "unicode/utf8.acceptRanges", "internal/bytealg.MaxLen"], apart := false, laid := [("unicode/utf8.acceptRanges", laid_unicode_utf8_acceptRanges), ("unicode/utf8.first", laid_unicode_utf8_first)], narrowed := true }
def RowsReadsUptoSaid : Prop := rowsReadsUptoRow.holds Tryd.pinned (OpenSpec.upto rowsReadsSpec)

/-- 'grommetlaw02.RowsNotes', WHERE WHAT IT READS IS OF BULK AT MOST 1048576: true; the input reads as it did. -/
def rowsNotesUptoRow : OpenClaim := { program := "ytnggbhpnpomfjaadoor", sum := "3e1c7d09ead6d58a27f0c93af7b32d1e61349b1bbb3fb0b9f306cfbd8747563b", func := "grommet/grommetlaw02.RowsNotes", spec := "rowsNotes", inPlace := ["internal/bytealg.IndexByteString", "internal/bytealg.IndexString"], unfollowed := true, recurses := true, named := ["unicode/utf8.first", "unicode/utf8.acceptRanges", "internal/bytealg.MaxLen"], apart := false, laid := [("unicode/utf8.acceptRanges", laid_unicode_utf8_acceptRanges), ("unicode/utf8.first", laid_unicode_utf8_first)], narrowed := true }
def RowsNotesUptoSaid : Prop := rowsNotesUptoRow.holds Tryd.pinned (OpenSpec.upto rowsNotesSpec)

/-- 'grommetlaw02.RowsAgain', WHERE WHAT IT READS IS OF BULK AT MOST 1048576: true; the input reads as it did. -/
def rowsAgainUptoRow : OpenClaim := { program := "ytnggbhpnpomfjaadoor", sum := "3e1c7d09ead6d58a27f0c93af7b32d1e61349b1bbb3fb0b9f306cfbd8747563b", func := "grommet/grommetlaw02.RowsAgain", spec := "rowsAgain", inPlace := ["internal/bytealg.IndexByteString", "internal/bytealg.IndexString"], unfollowed := true, recurses := true, named := ["unicode/utf8.first", "unicode/utf8.acceptRanges", "internal/bytealg.MaxLen"], apart := false, laid := [("unicode/utf8.acceptRanges", laid_unicode_utf8_acceptRanges), ("unicode/utf8.first", laid_unicode_utf8_first)], narrowed := true }
def RowsAgainUptoSaid : Prop := rowsAgainUptoRow.holds Tryd.pinned (OpenSpec.upto rowsAgainSpec)

/-- 'grommetlaw02.RowsBoth', WHERE WHAT IT READS IS OF BULK AT MOST 1048576: true; the input reads as it did. -/
def rowsBothUptoRow : OpenClaim := { program := "ytnggbhpnpomfjaadoor", sum := "3e1c7d09ead6d58a27f0c93af7b32d1e61349b1bbb3fb0b9f306cfbd8747563b", func := "grommet/grommetlaw02.RowsBoth", spec := "rowsBoth", inPlace := ["internal/bytealg.IndexByteString", "internal/bytealg.IndexString"], unfollowed := true, recurses := true, named := ["unicode/utf8.first", "unicode/utf8.acceptRanges", "internal/bytealg.MaxLen"], apart := false, laid := [("unicode/utf8.acceptRanges", laid_unicode_utf8_acceptRanges), ("unicode/utf8.first", laid_unicode_utf8_first)], narrowed := true }
def RowsBothUptoSaid : Prop := rowsBothUptoRow.holds Tryd.pinned (OpenSpec.upto rowsBothSpec)

/-- 'grommetlaw02.RowsBelow', WHERE WHAT IT READS IS OF BULK AT MOST 1048576: true; the input reads as it did. -/
def rowsBelowUptoRow : OpenClaim := { program := "ytnggbhpnpomfjaadoor", sum := "3e1c7d09ead6d58a27f0c93af7b32d1e61349b1bbb3fb0b9f306cfbd8747563b", func := "grommet/grommetlaw02.RowsBelow", spec := "rowsBelow", inPlace := ["internal/bytealg.IndexByteString", "internal/bytealg.IndexString"], unfollowed := true, recurses := true, named := ["unicode/utf8.first", "unicode/utf8.acceptRanges", "internal/bytealg.MaxLen"], apart := false, laid := [("unicode/utf8.acceptRanges", laid_unicode_utf8_acceptRanges), ("unicode/utf8.first", laid_unicode_utf8_first)], narrowed := true }
def RowsBelowUptoSaid : Prop := rowsBelowUptoRow.holds Tryd.pinned (OpenSpec.upto rowsBelowSpec)

/-- 'grommetlaw02.RowsBack', WHERE WHAT IT READS IS OF BULK AT MOST 1048576: true; the input reads as it did. -/
def rowsBackUptoRow : OpenClaim := { program := "ytnggbhpnpomfjaadoor", sum := "3e1c7d09ead6d58a27f0c93af7b32d1e61349b1bbb3fb0b9f306cfbd8747563b", func := "grommet/grommetlaw02.RowsBack", spec := "rowsBack", inPlace := ["internal/bytealg.IndexByteString", "internal/bytealg.IndexString", "internal/abi.NoEscape", "internal/bytealg.MakeNoZero"], unfollowed := true, recurses := true, named := ["unicode/utf8.first", "unicode/utf8.acceptRanges", "internal/bytealg.MaxLen"], apart := false, laid := [("unicode/utf8.acceptRanges", laid_unicode_utf8_acceptRanges), ("unicode/utf8.first", laid_unicode_utf8_first)], narrowed := true }
def RowsBackUptoSaid : Prop := rowsBackUptoRow.holds Tryd.pinned (OpenSpec.upto rowsBackSpec)

/-- 'grommetlaw02.RowsWrites', WHERE WHAT IT READS IS OF BULK AT MOST 1048576: true; the input reads as it did. -/
def rowsWritesUptoRow : OpenClaim := { program := "ytnggbhpnpomfjaadoor", sum := "3e1c7d09ead6d58a27f0c93af7b32d1e61349b1bbb3fb0b9f306cfbd8747563b", func := "grommet/grommetlaw02.RowsWrites", spec := "rowsWrites", inPlace := ["internal/bytealg.IndexByteString", "internal/bytealg.IndexString", "internal/abi.NoEscape", "internal/bytealg.MakeNoZero"], unfollowed := true, recurses := true, named := ["unicode/utf8.first", "unicode/utf8.acceptRanges", "internal/bytealg.MaxLen"], apart := false, laid := [("unicode/utf8.acceptRanges", laid_unicode_utf8_acceptRanges), ("unicode/utf8.first", laid_unicode_utf8_first)], narrowed := true }
def RowsWritesUptoSaid : Prop := rowsWritesUptoRow.holds Tryd.pinned (OpenSpec.upto rowsWritesSpec)

/-- 'grommetlaw08.BlockLays', WHERE WHAT IT READS IS OF BULK AT MOST 1048576: true; the input reads as it did. -/
def blockLaysUptoRow : OpenClaim := { program := "ytnggbhpnpomfjaadoor", sum := "3e1c7d09ead6d58a27f0c93af7b32d1e61349b1bbb3fb0b9f306cfbd8747563b", func := "grommet/grommetlaw08.BlockLays", spec := "blockLays", inPlace := ["internal/abi.NoEscape", "internal/bytealg.MakeNoZero", "internal/bytealg.IndexByteString", "internal/bytealg.IndexString", "internal/bytealg.CountString"], unfollowed := true, recurses := true, named := ["unicode/utf8.first", "unicode/utf8.acceptRanges", "internal/bytealg.MaxLen"], apart := false, laid := [("unicode/utf8.acceptRanges", laid_unicode_utf8_acceptRanges), ("unicode/utf8.first", laid_unicode_utf8_first)], narrowed := true }
def BlockLaysUptoSaid : Prop := blockLaysUptoRow.holds Tryd.pinned (OpenSpec.upto blockLaysSpec)

/-- 'grommetlaw08.BlockBack', WHERE WHAT IT READS IS OF BULK AT MOST 1048576: true; the input reads as it did. -/
def blockBackUptoRow : OpenClaim := { program := "ytnggbhpnpomfjaadoor", sum := "3e1c7d09ead6d58a27f0c93af7b32d1e61349b1bbb3fb0b9f306cfbd8747563b", func := "grommet/grommetlaw08.BlockBack", spec := "blockBack", inPlace := ["internal/abi.NoEscape", "internal/bytealg.MakeNoZero", "internal/bytealg.IndexByteString", "internal/bytealg.IndexString", "internal/bytealg.CountString"], unfollowed := true, recurses := true, named := ["unicode/utf8.first", "unicode/utf8.acceptRanges", "internal/bytealg.MaxLen"], apart := false, laid := [("unicode/utf8.acceptRanges", laid_unicode_utf8_acceptRanges), ("unicode/utf8.first", laid_unicode_utf8_first)], narrowed := true }
def BlockBackUptoSaid : Prop := blockBackUptoRow.holds Tryd.pinned (OpenSpec.upto blockBackSpec)

end Rows
end Go.Proofs.YtnggbhpnpomfjaaDoor
