/-
  DERIVED. GIVEN WITH THE SEED: THE CARDS: each row of YtpgncjfmaeiaaaaDoorRows.lean that lists a variable, with what it lists TIED to the program's text (the seventh form; the later family's looks); each row that meets fmt, with fmt's text TOLD by the authors' own Lean function (tested against real Go, not proved from fmt's source: count such statements apart). THE CARD IS WHAT COUNTS. Prove the row's statement (the work); the ties are given (YtpgncjfmaeiaaaaDoorTie.lean); close each card by the builder's one call (the guide's Derived/Test/ToyasCard.lean, 'card_holds'). Laid BY PROGRAM, IN A SANDBOX (cutbox-door.mjs). By AI agents, Wed Nov 11 2026. No macro, syntax, notation, axiom, sorry.
-/
import Derived.Test.YtpgncjfmaeiaaaaDoorRows
import GoSem.ClaimSeven
namespace Go.Proofs.YtpgncjfmaeiaaaaDoor
namespace Rows

/-- THE TIED CARD OF 'grommetlaw13.IsoTells'. -/
def isoTellsCard : Claim7 := { stood := { row := isoTellsRow, standIns := [], harness := (true, "d9dc62b7440358f3ceb704a036c5dc1233ff213fbec5e5b2bbf4fb722ee9d87a"), looks := true }, kinds := [], alts := [], laidByText := true, laidKinds := [.data, .data, .data, .data, .sentinel, .sentinel, .pinned], laidTests := true, laidLooks := .later }
def IsoTellsCardSaid : Prop := Claim7.holds Tryd.pinned (.plain (OpenSpec.ofChange isoTellsSpec)) isoTellsCard

/-- THE TIED CARD OF 'grommetlaw13.IsoOrder'. -/
def isoOrderCard : Claim7 := { stood := { row := isoOrderRow, standIns := [], harness := (true, "d9dc62b7440358f3ceb704a036c5dc1233ff213fbec5e5b2bbf4fb722ee9d87a"), looks := true }, kinds := [], alts := [], laidByText := true, laidKinds := [.data, .data, .data, .data, .sentinel, .sentinel, .pinned], laidTests := true, laidLooks := .later }
def IsoOrderCardSaid : Prop := Claim7.holds Tryd.pinned (.plain (OpenSpec.ofChange isoOrderSpec)) isoOrderCard

/-- THE TIED CARD OF 'grommetlaw13.IsoFinds'. -/
def isoFindsCard : Claim7 := { stood := { row := isoFindsRow, standIns := [], harness := (true, "d9dc62b7440358f3ceb704a036c5dc1233ff213fbec5e5b2bbf4fb722ee9d87a"), looks := true }, kinds := [], alts := [], laidByText := true, laidKinds := [.data, .data, .data, .data, .sentinel, .sentinel, .pinned], laidTests := true, laidLooks := .later }
def IsoFindsCardSaid : Prop := Claim7.holds Tryd.pinned (.plain (OpenSpec.ofChange isoFindsSpec)) isoFindsCard

/-- THE TIED CARD OF 'grommetlaw13.IsoWithin'. -/
def isoWithinCard : Claim7 := { stood := { row := isoWithinRow, standIns := [], harness := (true, "d9dc62b7440358f3ceb704a036c5dc1233ff213fbec5e5b2bbf4fb722ee9d87a"), looks := true }, kinds := [], alts := [], laidByText := true, laidKinds := [.data, .data, .data, .data, .sentinel, .sentinel, .pinned], laidTests := true, laidLooks := .later }
def IsoWithinCardSaid : Prop := Claim7.holds Tryd.pinned (.plain (OpenSpec.ofChange isoWithinSpec)) isoWithinCard

/-- THE SECOND FORM's CARD OF 'grommetlaw13.IsoTells'. -/
def isoTellsUptoCard : Claim7 := { stood := { row := isoTellsUptoRow, standIns := [], harness := (true, "d9dc62b7440358f3ceb704a036c5dc1233ff213fbec5e5b2bbf4fb722ee9d87a"), looks := true }, kinds := [], alts := [], laidByText := true, laidKinds := [.data, .data, .data, .data, .sentinel, .sentinel, .pinned], laidTests := true, laidLooks := .later }
def IsoTellsUptoCardSaid : Prop := Claim7.holds Tryd.pinned (.plain (OpenSpec.upto isoTellsSpec)) isoTellsUptoCard

/-- THE SECOND FORM's CARD OF 'grommetlaw13.IsoOrder'. -/
def isoOrderUptoCard : Claim7 := { stood := { row := isoOrderUptoRow, standIns := [], harness := (true, "d9dc62b7440358f3ceb704a036c5dc1233ff213fbec5e5b2bbf4fb722ee9d87a"), looks := true }, kinds := [], alts := [], laidByText := true, laidKinds := [.data, .data, .data, .data, .sentinel, .sentinel, .pinned], laidTests := true, laidLooks := .later }
def IsoOrderUptoCardSaid : Prop := Claim7.holds Tryd.pinned (.plain (OpenSpec.upto isoOrderSpec)) isoOrderUptoCard

/-- THE SECOND FORM's CARD OF 'grommetlaw13.IsoFinds'. -/
def isoFindsUptoCard : Claim7 := { stood := { row := isoFindsUptoRow, standIns := [], harness := (true, "d9dc62b7440358f3ceb704a036c5dc1233ff213fbec5e5b2bbf4fb722ee9d87a"), looks := true }, kinds := [], alts := [], laidByText := true, laidKinds := [.data, .data, .data, .data, .sentinel, .sentinel, .pinned], laidTests := true, laidLooks := .later }
def IsoFindsUptoCardSaid : Prop := Claim7.holds Tryd.pinned (.plain (OpenSpec.upto isoFindsSpec)) isoFindsUptoCard

/-- THE SECOND FORM's CARD OF 'grommetlaw13.IsoWithin'. -/
def isoWithinUptoCard : Claim7 := { stood := { row := isoWithinUptoRow, standIns := [], harness := (true, "d9dc62b7440358f3ceb704a036c5dc1233ff213fbec5e5b2bbf4fb722ee9d87a"), looks := true }, kinds := [], alts := [], laidByText := true, laidKinds := [.data, .data, .data, .data, .sentinel, .sentinel, .pinned], laidTests := true, laidLooks := .later }
def IsoWithinUptoCardSaid : Prop := Claim7.holds Tryd.pinned (.plain (OpenSpec.upto isoWithinSpec)) isoWithinUptoCard
end Rows
end Go.Proofs.YtpgncjfmaeiaaaaDoor
