/-
  DERIVED. GIVEN WITH THE SEED: THE CARDS: each row of YtnggbhpnpomfjaaDoorRows.lean that lists a variable, with what it lists TIED to the program's text (the seventh form; the later family's looks); each row that meets fmt, with fmt's text TOLD by the authors' own Lean function (tested against real Go, not proved from fmt's source: count such statements apart). THE CARD IS WHAT COUNTS. Prove the row's statement (the work); the ties are given (YtnggbhpnpomfjaaDoorTie.lean); close each card by the builder's one call (the guide's Derived/Test/ToyasCard.lean, 'card_holds'). Laid BY PROGRAM, IN A SANDBOX (cutbox-door.mjs). By AI agents, Wed Nov 11 2026. No macro, syntax, notation, axiom, sorry.
-/
import Derived.Test.YtnggbhpnpomfjaaDoorRows
import GoSem.ClaimSeven
namespace Go.Proofs.YtnggbhpnpomfjaaDoor
namespace Rows

/-- THE TIED CARD OF 'grommetlaw01.UtfEncodes'. -/
def utfEncodesCard : Claim7 := { stood := { row := utfEncodesRow, standIns := [], harness := (true, "a6956afac29cc9293df4a91aad554bfa4a8c041a4c7a3ff9db0e9fb5a9d7fe42"), looks := false }, kinds := [], alts := [], laidByText := true, laidKinds := [.data, .pinned], laidTests := true, laidLooks := .later }
def UtfEncodesCardSaid : Prop := Claim7.holds Tryd.pinned (.plain (OpenSpec.ofChange utfEncodesSpec)) utfEncodesCard

/-- THE TIED CARD OF 'grommetlaw01.UtfApart'. -/
def utfApartCard : Claim7 := { stood := { row := utfApartRow, standIns := [], harness := (true, "a6956afac29cc9293df4a91aad554bfa4a8c041a4c7a3ff9db0e9fb5a9d7fe42"), looks := false }, kinds := [], alts := [], laidByText := true, laidKinds := [.data, .pinned], laidTests := true, laidLooks := .later }
def UtfApartCardSaid : Prop := Claim7.holds Tryd.pinned (.plain (OpenSpec.ofChange utfApartSpec)) utfApartCard

/-- THE TIED CARD OF 'grommetlaw01.UtfPrints'. -/
def utfPrintsCard : Claim7 := { stood := { row := utfPrintsRow, standIns := [], harness := (true, "a6956afac29cc9293df4a91aad554bfa4a8c041a4c7a3ff9db0e9fb5a9d7fe42"), looks := false }, kinds := [], alts := [], laidByText := true, laidKinds := [.data, .pinned], laidTests := true, laidLooks := .later }
def UtfPrintsCardSaid : Prop := Claim7.holds Tryd.pinned (.plain (OpenSpec.ofChange utfPrintsSpec)) utfPrintsCard

/-- THE TIED CARD OF 'grommetlaw01.UtfDecodes'. -/
def utfDecodesCard : Claim7 := { stood := { row := utfDecodesRow, standIns := [], harness := (true, "a6956afac29cc9293df4a91aad554bfa4a8c041a4c7a3ff9db0e9fb5a9d7fe42"), looks := false }, kinds := [], alts := [], laidByText := true, laidKinds := [.data, .pinned], laidTests := true, laidLooks := .later }
def UtfDecodesCardSaid : Prop := Claim7.holds Tryd.pinned (.plain (OpenSpec.ofChange utfDecodesSpec)) utfDecodesCard

/-- THE TIED CARD OF 'grommetlaw01.UtfTurned'. -/
def utfTurnedCard : Claim7 := { stood := { row := utfTurnedRow, standIns := [], harness := (true, "a6956afac29cc9293df4a91aad554bfa4a8c041a4c7a3ff9db0e9fb5a9d7fe42"), looks := false }, kinds := [], alts := [], laidByText := true, laidKinds := [.data, .pinned], laidTests := true, laidLooks := .later }
def UtfTurnedCardSaid : Prop := Claim7.holds Tryd.pinned (.plain (OpenSpec.ofChange utfTurnedSpec)) utfTurnedCard

/-- THE TIED CARD OF 'grommetlaw01.UtfBack'. -/
def utfBackCard : Claim7 := { stood := { row := utfBackRow, standIns := [], harness := (true, "a6956afac29cc9293df4a91aad554bfa4a8c041a4c7a3ff9db0e9fb5a9d7fe42"), looks := false }, kinds := [], alts := [], laidByText := true, laidKinds := [.data, .pinned], laidTests := true, laidLooks := .later }
def UtfBackCardSaid : Prop := Claim7.holds Tryd.pinned (.plain (OpenSpec.ofChange utfBackSpec)) utfBackCard

/-- THE TIED CARD OF 'grommetlaw01.UtfBoth'. -/
def utfBothCard : Claim7 := { stood := { row := utfBothRow, standIns := [], harness := (true, "a6956afac29cc9293df4a91aad554bfa4a8c041a4c7a3ff9db0e9fb5a9d7fe42"), looks := false }, kinds := [], alts := [], laidByText := true, laidKinds := [.data, .pinned], laidTests := true, laidLooks := .later }
def UtfBothCardSaid : Prop := Claim7.holds Tryd.pinned (.plain (OpenSpec.ofChange utfBothSpec)) utfBothCard

/-- THE TIED CARD OF 'grommetlaw02.RowsReads'. -/
def rowsReadsCard : Claim7 := { stood := { row := rowsReadsRow, standIns := [], harness := (true, "a6956afac29cc9293df4a91aad554bfa4a8c041a4c7a3ff9db0e9fb5a9d7fe42"), looks := false }, kinds := [], alts := [], laidByText := true, laidKinds := [.data, .pinned], laidTests := true, laidLooks := .later }
def RowsReadsCardSaid : Prop := Claim7.holds Tryd.pinned (.plain (OpenSpec.ofChange rowsReadsSpec)) rowsReadsCard

/-- THE TIED CARD OF 'grommetlaw02.RowsNotes'. -/
def rowsNotesCard : Claim7 := { stood := { row := rowsNotesRow, standIns := [], harness := (true, "a6956afac29cc9293df4a91aad554bfa4a8c041a4c7a3ff9db0e9fb5a9d7fe42"), looks := false }, kinds := [], alts := [], laidByText := true, laidKinds := [.data, .pinned], laidTests := true, laidLooks := .later }
def RowsNotesCardSaid : Prop := Claim7.holds Tryd.pinned (.plain (OpenSpec.ofChange rowsNotesSpec)) rowsNotesCard

/-- THE TIED CARD OF 'grommetlaw02.RowsAgain'. -/
def rowsAgainCard : Claim7 := { stood := { row := rowsAgainRow, standIns := [], harness := (true, "a6956afac29cc9293df4a91aad554bfa4a8c041a4c7a3ff9db0e9fb5a9d7fe42"), looks := false }, kinds := [], alts := [], laidByText := true, laidKinds := [.data, .pinned], laidTests := true, laidLooks := .later }
def RowsAgainCardSaid : Prop := Claim7.holds Tryd.pinned (.plain (OpenSpec.ofChange rowsAgainSpec)) rowsAgainCard

/-- THE TIED CARD OF 'grommetlaw02.RowsBoth'. -/
def rowsBothCard : Claim7 := { stood := { row := rowsBothRow, standIns := [], harness := (true, "a6956afac29cc9293df4a91aad554bfa4a8c041a4c7a3ff9db0e9fb5a9d7fe42"), looks := false }, kinds := [], alts := [], laidByText := true, laidKinds := [.data, .pinned], laidTests := true, laidLooks := .later }
def RowsBothCardSaid : Prop := Claim7.holds Tryd.pinned (.plain (OpenSpec.ofChange rowsBothSpec)) rowsBothCard

/-- THE TIED CARD OF 'grommetlaw02.RowsBelow'. -/
def rowsBelowCard : Claim7 := { stood := { row := rowsBelowRow, standIns := [], harness := (true, "a6956afac29cc9293df4a91aad554bfa4a8c041a4c7a3ff9db0e9fb5a9d7fe42"), looks := false }, kinds := [], alts := [], laidByText := true, laidKinds := [.data, .pinned], laidTests := true, laidLooks := .later }
def RowsBelowCardSaid : Prop := Claim7.holds Tryd.pinned (.plain (OpenSpec.ofChange rowsBelowSpec)) rowsBelowCard

/-- THE TIED CARD OF 'grommetlaw02.RowsBack'. -/
def rowsBackCard : Claim7 := { stood := { row := rowsBackRow, standIns := [], harness := (true, "a6956afac29cc9293df4a91aad554bfa4a8c041a4c7a3ff9db0e9fb5a9d7fe42"), looks := false }, kinds := [], alts := [], laidByText := true, laidKinds := [.data, .pinned], laidTests := true, laidLooks := .later }
def RowsBackCardSaid : Prop := Claim7.holds Tryd.pinned (.plain (OpenSpec.ofChange rowsBackSpec)) rowsBackCard

/-- THE TIED CARD OF 'grommetlaw02.RowsWrites'. -/
def rowsWritesCard : Claim7 := { stood := { row := rowsWritesRow, standIns := [], harness := (true, "a6956afac29cc9293df4a91aad554bfa4a8c041a4c7a3ff9db0e9fb5a9d7fe42"), looks := false }, kinds := [], alts := [], laidByText := true, laidKinds := [.data, .pinned], laidTests := true, laidLooks := .later }
def RowsWritesCardSaid : Prop := Claim7.holds Tryd.pinned (.plain (OpenSpec.ofChange rowsWritesSpec)) rowsWritesCard

/-- THE TIED CARD OF 'grommetlaw08.BlockLays'. -/
def blockLaysCard : Claim7 := { stood := { row := blockLaysRow, standIns := [], harness := (true, "a6956afac29cc9293df4a91aad554bfa4a8c041a4c7a3ff9db0e9fb5a9d7fe42"), looks := false }, kinds := [], alts := [], laidByText := true, laidKinds := [.data, .pinned], laidTests := true, laidLooks := .later }
def BlockLaysCardSaid : Prop := Claim7.holds Tryd.pinned (.plain (OpenSpec.ofChange blockLaysSpec)) blockLaysCard

/-- THE TIED CARD OF 'grommetlaw08.BlockBack'. -/
def blockBackCard : Claim7 := { stood := { row := blockBackRow, standIns := [], harness := (true, "a6956afac29cc9293df4a91aad554bfa4a8c041a4c7a3ff9db0e9fb5a9d7fe42"), looks := false }, kinds := [], alts := [], laidByText := true, laidKinds := [.data, .pinned], laidTests := true, laidLooks := .later }
def BlockBackCardSaid : Prop := Claim7.holds Tryd.pinned (.plain (OpenSpec.ofChange blockBackSpec)) blockBackCard

/-- THE SECOND FORM's CARD OF 'grommetlaw01.UtfEncodes'. -/
def utfEncodesUptoCard : Claim7 := { stood := { row := utfEncodesUptoRow, standIns := [], harness := (true, "a6956afac29cc9293df4a91aad554bfa4a8c041a4c7a3ff9db0e9fb5a9d7fe42"), looks := false }, kinds := [], alts := [], laidByText := true, laidKinds := [.data, .pinned], laidTests := true, laidLooks := .later }
def UtfEncodesUptoCardSaid : Prop := Claim7.holds Tryd.pinned (.plain (OpenSpec.upto utfEncodesSpec)) utfEncodesUptoCard

/-- THE SECOND FORM's CARD OF 'grommetlaw01.UtfApart'. -/
def utfApartUptoCard : Claim7 := { stood := { row := utfApartUptoRow, standIns := [], harness := (true, "a6956afac29cc9293df4a91aad554bfa4a8c041a4c7a3ff9db0e9fb5a9d7fe42"), looks := false }, kinds := [], alts := [], laidByText := true, laidKinds := [.data, .pinned], laidTests := true, laidLooks := .later }
def UtfApartUptoCardSaid : Prop := Claim7.holds Tryd.pinned (.plain (OpenSpec.upto utfApartSpec)) utfApartUptoCard

/-- THE SECOND FORM's CARD OF 'grommetlaw01.UtfPrints'. -/
def utfPrintsUptoCard : Claim7 := { stood := { row := utfPrintsUptoRow, standIns := [], harness := (true, "a6956afac29cc9293df4a91aad554bfa4a8c041a4c7a3ff9db0e9fb5a9d7fe42"), looks := false }, kinds := [], alts := [], laidByText := true, laidKinds := [.data, .pinned], laidTests := true, laidLooks := .later }
def UtfPrintsUptoCardSaid : Prop := Claim7.holds Tryd.pinned (.plain (OpenSpec.upto utfPrintsSpec)) utfPrintsUptoCard

/-- THE SECOND FORM's CARD OF 'grommetlaw01.UtfDecodes'. -/
def utfDecodesUptoCard : Claim7 := { stood := { row := utfDecodesUptoRow, standIns := [], harness := (true, "a6956afac29cc9293df4a91aad554bfa4a8c041a4c7a3ff9db0e9fb5a9d7fe42"), looks := false }, kinds := [], alts := [], laidByText := true, laidKinds := [.data, .pinned], laidTests := true, laidLooks := .later }
def UtfDecodesUptoCardSaid : Prop := Claim7.holds Tryd.pinned (.plain (OpenSpec.upto utfDecodesSpec)) utfDecodesUptoCard

/-- THE SECOND FORM's CARD OF 'grommetlaw01.UtfTurned'. -/
def utfTurnedUptoCard : Claim7 := { stood := { row := utfTurnedUptoRow, standIns := [], harness := (true, "a6956afac29cc9293df4a91aad554bfa4a8c041a4c7a3ff9db0e9fb5a9d7fe42"), looks := false }, kinds := [], alts := [], laidByText := true, laidKinds := [.data, .pinned], laidTests := true, laidLooks := .later }
def UtfTurnedUptoCardSaid : Prop := Claim7.holds Tryd.pinned (.plain (OpenSpec.upto utfTurnedSpec)) utfTurnedUptoCard

/-- THE SECOND FORM's CARD OF 'grommetlaw01.UtfBack'. -/
def utfBackUptoCard : Claim7 := { stood := { row := utfBackUptoRow, standIns := [], harness := (true, "a6956afac29cc9293df4a91aad554bfa4a8c041a4c7a3ff9db0e9fb5a9d7fe42"), looks := false }, kinds := [], alts := [], laidByText := true, laidKinds := [.data, .pinned], laidTests := true, laidLooks := .later }
def UtfBackUptoCardSaid : Prop := Claim7.holds Tryd.pinned (.plain (OpenSpec.upto utfBackSpec)) utfBackUptoCard

/-- THE SECOND FORM's CARD OF 'grommetlaw01.UtfBoth'. -/
def utfBothUptoCard : Claim7 := { stood := { row := utfBothUptoRow, standIns := [], harness := (true, "a6956afac29cc9293df4a91aad554bfa4a8c041a4c7a3ff9db0e9fb5a9d7fe42"), looks := false }, kinds := [], alts := [], laidByText := true, laidKinds := [.data, .pinned], laidTests := true, laidLooks := .later }
def UtfBothUptoCardSaid : Prop := Claim7.holds Tryd.pinned (.plain (OpenSpec.upto utfBothSpec)) utfBothUptoCard

/-- THE SECOND FORM's CARD OF 'grommetlaw02.RowsReads'. -/
def rowsReadsUptoCard : Claim7 := { stood := { row := rowsReadsUptoRow, standIns := [], harness := (true, "a6956afac29cc9293df4a91aad554bfa4a8c041a4c7a3ff9db0e9fb5a9d7fe42"), looks := false }, kinds := [], alts := [], laidByText := true, laidKinds := [.data, .pinned], laidTests := true, laidLooks := .later }
def RowsReadsUptoCardSaid : Prop := Claim7.holds Tryd.pinned (.plain (OpenSpec.upto rowsReadsSpec)) rowsReadsUptoCard

/-- THE SECOND FORM's CARD OF 'grommetlaw02.RowsNotes'. -/
def rowsNotesUptoCard : Claim7 := { stood := { row := rowsNotesUptoRow, standIns := [], harness := (true, "a6956afac29cc9293df4a91aad554bfa4a8c041a4c7a3ff9db0e9fb5a9d7fe42"), looks := false }, kinds := [], alts := [], laidByText := true, laidKinds := [.data, .pinned], laidTests := true, laidLooks := .later }
def RowsNotesUptoCardSaid : Prop := Claim7.holds Tryd.pinned (.plain (OpenSpec.upto rowsNotesSpec)) rowsNotesUptoCard

/-- THE SECOND FORM's CARD OF 'grommetlaw02.RowsAgain'. -/
def rowsAgainUptoCard : Claim7 := { stood := { row := rowsAgainUptoRow, standIns := [], harness := (true, "a6956afac29cc9293df4a91aad554bfa4a8c041a4c7a3ff9db0e9fb5a9d7fe42"), looks := false }, kinds := [], alts := [], laidByText := true, laidKinds := [.data, .pinned], laidTests := true, laidLooks := .later }
def RowsAgainUptoCardSaid : Prop := Claim7.holds Tryd.pinned (.plain (OpenSpec.upto rowsAgainSpec)) rowsAgainUptoCard

/-- THE SECOND FORM's CARD OF 'grommetlaw02.RowsBoth'. -/
def rowsBothUptoCard : Claim7 := { stood := { row := rowsBothUptoRow, standIns := [], harness := (true, "a6956afac29cc9293df4a91aad554bfa4a8c041a4c7a3ff9db0e9fb5a9d7fe42"), looks := false }, kinds := [], alts := [], laidByText := true, laidKinds := [.data, .pinned], laidTests := true, laidLooks := .later }
def RowsBothUptoCardSaid : Prop := Claim7.holds Tryd.pinned (.plain (OpenSpec.upto rowsBothSpec)) rowsBothUptoCard

/-- THE SECOND FORM's CARD OF 'grommetlaw02.RowsBelow'. -/
def rowsBelowUptoCard : Claim7 := { stood := { row := rowsBelowUptoRow, standIns := [], harness := (true, "a6956afac29cc9293df4a91aad554bfa4a8c041a4c7a3ff9db0e9fb5a9d7fe42"), looks := false }, kinds := [], alts := [], laidByText := true, laidKinds := [.data, .pinned], laidTests := true, laidLooks := .later }
def RowsBelowUptoCardSaid : Prop := Claim7.holds Tryd.pinned (.plain (OpenSpec.upto rowsBelowSpec)) rowsBelowUptoCard

/-- THE SECOND FORM's CARD OF 'grommetlaw02.RowsBack'. -/
def rowsBackUptoCard : Claim7 := { stood := { row := rowsBackUptoRow, standIns := [], harness := (true, "a6956afac29cc9293df4a91aad554bfa4a8c041a4c7a3ff9db0e9fb5a9d7fe42"), looks := false }, kinds := [], alts := [], laidByText := true, laidKinds := [.data, .pinned], laidTests := true, laidLooks := .later }
def RowsBackUptoCardSaid : Prop := Claim7.holds Tryd.pinned (.plain (OpenSpec.upto rowsBackSpec)) rowsBackUptoCard

/-- THE SECOND FORM's CARD OF 'grommetlaw02.RowsWrites'. -/
def rowsWritesUptoCard : Claim7 := { stood := { row := rowsWritesUptoRow, standIns := [], harness := (true, "a6956afac29cc9293df4a91aad554bfa4a8c041a4c7a3ff9db0e9fb5a9d7fe42"), looks := false }, kinds := [], alts := [], laidByText := true, laidKinds := [.data, .pinned], laidTests := true, laidLooks := .later }
def RowsWritesUptoCardSaid : Prop := Claim7.holds Tryd.pinned (.plain (OpenSpec.upto rowsWritesSpec)) rowsWritesUptoCard

/-- THE SECOND FORM's CARD OF 'grommetlaw08.BlockLays'. -/
def blockLaysUptoCard : Claim7 := { stood := { row := blockLaysUptoRow, standIns := [], harness := (true, "a6956afac29cc9293df4a91aad554bfa4a8c041a4c7a3ff9db0e9fb5a9d7fe42"), looks := false }, kinds := [], alts := [], laidByText := true, laidKinds := [.data, .pinned], laidTests := true, laidLooks := .later }
def BlockLaysUptoCardSaid : Prop := Claim7.holds Tryd.pinned (.plain (OpenSpec.upto blockLaysSpec)) blockLaysUptoCard

/-- THE SECOND FORM's CARD OF 'grommetlaw08.BlockBack'. -/
def blockBackUptoCard : Claim7 := { stood := { row := blockBackUptoRow, standIns := [], harness := (true, "a6956afac29cc9293df4a91aad554bfa4a8c041a4c7a3ff9db0e9fb5a9d7fe42"), looks := false }, kinds := [], alts := [], laidByText := true, laidKinds := [.data, .pinned], laidTests := true, laidLooks := .later }
def BlockBackUptoCardSaid : Prop := Claim7.holds Tryd.pinned (.plain (OpenSpec.upto blockBackSpec)) blockBackUptoCard
end Rows
end Go.Proofs.YtnggbhpnpomfjaaDoor
