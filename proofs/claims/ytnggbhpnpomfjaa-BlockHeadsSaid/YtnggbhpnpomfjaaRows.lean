/-
  No cell of these rows narrows 'for every input' (looked for: loops, veiled, ifaces, maps, wideKeys, modest, calm, conditions, laid).
  DERIVED. THE GIVEN ROWS OF THIS SEAT. 6 by the template 'for every input the law returns true; each argument reads behind the call as it read before'; 0 by the template 'total and deterministic' (their statements: YtnggbhpnpomfjaaTotals.lean).
  GIVEN WITH THE SEED: the statements are not yours to turn. If you find one false, say at which input.
  Laid BY PROGRAM, IN A SANDBOX (cutbox-rows.mjs): the forced cells as the released guide's own fill.sh prints them over the translation 6e5bbf29d3bf4509… (all of the seat's roots in one cut). By AI agents, Wed Nov 11 2026. No macro, syntax, notation, axiom, sorry.
-/
import Derived.Test.YtnggbhpnpomfjaaChecked
import GoSem.Claim
import GoSem.ClaimJoined
import GoSem.ClaimMapViews
import Derived.JoinedTies
import Derived.KernelRfl
namespace Go.Proofs.Ytnggbhpnpomfjaa
/- THE CELL 'sum', in the pinned program and in every row, IS THE sha256 OF THE DUMP (.gsa) THAT YtnggbhpnpomfjaaProg.lean LOADS. Nothing in Lean hashes anything: it is a label: what it is worth is what the hold of that sum in a sandbox is worth. -/
noncomputable def Try.pinned : Pinned := { name := "ytnggbhpnpomfjaa", sum := "6e5bbf29d3bf450961be8cf690e21ef58ce0e49dabd7e8c120b14b5caad9ad19", checked := Try.checked }
namespace Rows
def none {H : Type} : Left H := { results := [], args := [] }

/-- 'grommetlaw08.BlockFolds': WHATEVER THE INPUT: true; the input reads as it did. -/
def blockFoldsSpec : ChangeSpec := { name := "blockFolds", fn := fun _ => fun
  | [d] => { results := [.lit (.bool true)], args := [d] }
  | _ => none }
def blockFoldsRow : OpenClaim := { program := "ytnggbhpnpomfjaa", sum := "6e5bbf29d3bf450961be8cf690e21ef58ce0e49dabd7e8c120b14b5caad9ad19", func := "grommet/grommetlaw08.BlockFolds", spec := "blockFolds", inPlace := ["internal/abi.NoEscape", "internal/bytealg.MakeNoZero"], unfollowed := true, recurses := true, apart := false }
def BlockFoldsSaid : Prop := blockFoldsRow.holds Try.pinned (OpenSpec.ofChange blockFoldsSpec)

/-- ITS FALSE NEIGHBOUR: 'it returns false'. Refute it at one input. -/
def blockFoldsWrong : ChangeSpec := { name := "blockFolds", fn := fun _ => fun
  | [d] => { results := [.lit (.bool false)], args := [d] }
  | _ => none }
def BlockFoldsWrongFalsely : Prop := blockFoldsRow.holds Try.pinned (OpenSpec.ofChange blockFoldsWrong)

/-- 'grommetlaw08.BlockTakes': WHATEVER THE INPUT: true; the input reads as it did. -/
def blockTakesSpec : ChangeSpec := { name := "blockTakes", fn := fun _ => fun
  | [d1, d2, d3] => { results := [.lit (.bool true)], args := [d1, d2, d3] }
  | _ => none }
def blockTakesRow : OpenClaim := { program := "ytnggbhpnpomfjaa", sum := "6e5bbf29d3bf450961be8cf690e21ef58ce0e49dabd7e8c120b14b5caad9ad19", func := "grommet/grommetlaw08.BlockTakes", spec := "blockTakes", inPlace := ["internal/abi.NoEscape", "internal/bytealg.MakeNoZero"], unfollowed := true, recurses := true, apart := false }
def BlockTakesSaid : Prop := blockTakesRow.holds Try.pinned (OpenSpec.ofChange blockTakesSpec)

/-- ITS FALSE NEIGHBOUR: 'it returns false'. Refute it at one input. -/
def blockTakesWrong : ChangeSpec := { name := "blockTakes", fn := fun _ => fun
  | [d1, d2, d3] => { results := [.lit (.bool false)], args := [d1, d2, d3] }
  | _ => none }
def BlockTakesWrongFalsely : Prop := blockTakesRow.holds Try.pinned (OpenSpec.ofChange blockTakesWrong)

/-- 'grommetlaw08.BlockEnds': WHATEVER THE INPUT: true; the input reads as it did. -/
def blockEndsSpec : ChangeSpec := { name := "blockEnds", fn := fun _ => fun
  | [d1, d2, d3] => { results := [.lit (.bool true)], args := [d1, d2, d3] }
  | _ => none }
def blockEndsRow : OpenClaim := { program := "ytnggbhpnpomfjaa", sum := "6e5bbf29d3bf450961be8cf690e21ef58ce0e49dabd7e8c120b14b5caad9ad19", func := "grommet/grommetlaw08.BlockEnds", spec := "blockEnds", inPlace := ["internal/abi.NoEscape", "internal/bytealg.MakeNoZero"], unfollowed := true, recurses := true, apart := false }
def BlockEndsSaid : Prop := blockEndsRow.holds Try.pinned (OpenSpec.ofChange blockEndsSpec)

/-- ITS FALSE NEIGHBOUR: 'it returns false'. Refute it at one input. -/
def blockEndsWrong : ChangeSpec := { name := "blockEnds", fn := fun _ => fun
  | [d1, d2, d3] => { results := [.lit (.bool false)], args := [d1, d2, d3] }
  | _ => none }
def BlockEndsWrongFalsely : Prop := blockEndsRow.holds Try.pinned (OpenSpec.ofChange blockEndsWrong)

/-- 'grommetlaw08.BlockFlat': WHATEVER THE INPUT: true; the input reads as it did. -/
def blockFlatSpec : ChangeSpec := { name := "blockFlat", fn := fun _ => fun
  | [d] => { results := [.lit (.bool true)], args := [d] }
  | _ => none }
def blockFlatRow : OpenClaim := { program := "ytnggbhpnpomfjaa", sum := "6e5bbf29d3bf450961be8cf690e21ef58ce0e49dabd7e8c120b14b5caad9ad19", func := "grommet/grommetlaw08.BlockFlat", spec := "blockFlat", inPlace := ["internal/abi.NoEscape", "internal/bytealg.MakeNoZero"], unfollowed := true, recurses := true, apart := false }
def BlockFlatSaid : Prop := blockFlatRow.holds Try.pinned (OpenSpec.ofChange blockFlatSpec)

/-- ITS FALSE NEIGHBOUR: 'it returns false'. Refute it at one input. -/
def blockFlatWrong : ChangeSpec := { name := "blockFlat", fn := fun _ => fun
  | [d] => { results := [.lit (.bool false)], args := [d] }
  | _ => none }
def BlockFlatWrongFalsely : Prop := blockFlatRow.holds Try.pinned (OpenSpec.ofChange blockFlatWrong)

/-- 'grommetlaw08.BlockHeads': WHATEVER THE INPUT: true; the input reads as it did. -/
def blockHeadsSpec : ChangeSpec := { name := "blockHeads", fn := fun _ => fun
  | [d1, d2] => { results := [.lit (.bool true)], args := [d1, d2] }
  | _ => none }
def blockHeadsRow : OpenClaim := { program := "ytnggbhpnpomfjaa", sum := "6e5bbf29d3bf450961be8cf690e21ef58ce0e49dabd7e8c120b14b5caad9ad19", func := "grommet/grommetlaw08.BlockHeads", spec := "blockHeads", inPlace := ["internal/abi.NoEscape", "internal/bytealg.MakeNoZero"], unfollowed := true, recurses := true, apart := false }
def BlockHeadsSaid : Prop := blockHeadsRow.holds Try.pinned (OpenSpec.ofChange blockHeadsSpec)

/-- ITS FALSE NEIGHBOUR: 'it returns false'. Refute it at one input. -/
def blockHeadsWrong : ChangeSpec := { name := "blockHeads", fn := fun _ => fun
  | [d1, d2] => { results := [.lit (.bool false)], args := [d1, d2] }
  | _ => none }
def BlockHeadsWrongFalsely : Prop := blockHeadsRow.holds Try.pinned (OpenSpec.ofChange blockHeadsWrong)

/-- 'grommetlaw08.BlockMarks': WHATEVER THE INPUT: true; the input reads as it did. -/
def blockMarksSpec : ChangeSpec := { name := "blockMarks", fn := fun _ => fun
  | [d1, d2, d3] => { results := [.lit (.bool true)], args := [d1, d2, d3] }
  | _ => none }
def blockMarksRow : OpenClaim := { program := "ytnggbhpnpomfjaa", sum := "6e5bbf29d3bf450961be8cf690e21ef58ce0e49dabd7e8c120b14b5caad9ad19", func := "grommet/grommetlaw08.BlockMarks", spec := "blockMarks", inPlace := ["internal/abi.NoEscape", "internal/bytealg.MakeNoZero"], unfollowed := true, recurses := true, apart := false }
def BlockMarksSaid : Prop := blockMarksRow.holds Try.pinned (OpenSpec.ofChange blockMarksSpec)

/-- ITS FALSE NEIGHBOUR: 'it returns false'. Refute it at one input. -/
def blockMarksWrong : ChangeSpec := { name := "blockMarks", fn := fun _ => fun
  | [d1, d2, d3] => { results := [.lit (.bool false)], args := [d1, d2, d3] }
  | _ => none }
def BlockMarksWrongFalsely : Prop := blockMarksRow.holds Try.pinned (OpenSpec.ofChange blockMarksWrong)

/- THE SECOND FORM. 'bulk': how many values and letters a reading holds, each counted each time it is reached (what is shared counts as often as it is met; a slice's spare places count too). A statement '..UptoSaid' is the law's where the arguments, and the package variables that the reading takes, are together of bulk at most 1048576: NARROWER than '..Said'. Prove '..Said' where nothing that the law and all that it calls make is longer than what came in: it says more and counts as full. Else prove '..UptoSaid'. A law counts once. -/
mutual
def uptoBulk {H : Type} : DataW H → Nat
  | .lit (.string bytes) => bytes.length + 1
  | .lit _ => 1
  | .nil => 1
  | .ptr d => uptoBulk d + 1
  | .slice elems spare => uptoBulkAll elems + uptoBulkAll spare + 1
  | .agg parts => uptoBulkAll parts + 1
  | .iface _ d => uptoBulk d + 1
  | .map entries => uptoBulkEntries entries + 1
  | .held _ => 1
def uptoBulkAll {H : Type} : List (DataW H) → Nat
  | [] => 0
  | d :: r => uptoBulk d + uptoBulkAll r
def uptoBulkEntries {H : Type} : List (Lit × DataW H) → Nat
  | [] => 0
  | x :: r => uptoBulkEntry x + uptoBulkEntries r
def uptoBulkEntry {H : Type} : Lit × DataW H → Nat
  | (.string bytes, d) => bytes.length + uptoBulk d + 1
  | (_, d) => uptoBulk d + 1
 end
def uptoSmall : (H : Type) → List (DataW H) → Bool := fun _ ds => decide (uptoBulkAll ds ≤ 1048576)
def OpenSpec.upto (s : _root_.Go.ChangeSpec) : _root_.Go.OpenSpec := { _root_.Go.OpenSpec.ofChange s with cond := some uptoSmall }

/-- 'grommetlaw08.BlockFolds', WHERE WHAT IT READS IS OF BULK AT MOST 1048576: true; the input reads as it did. -/
def blockFoldsUptoRow : OpenClaim := { program := "ytnggbhpnpomfjaa", sum := "6e5bbf29d3bf450961be8cf690e21ef58ce0e49dabd7e8c120b14b5caad9ad19", func := "grommet/grommetlaw08.BlockFolds", spec := "blockFolds", inPlace := ["internal/abi.NoEscape", "internal/bytealg.MakeNoZero"], unfollowed := true, recurses := true, apart := false, narrowed := true }
def BlockFoldsUptoSaid : Prop := blockFoldsUptoRow.holds Try.pinned (OpenSpec.upto blockFoldsSpec)

/-- 'grommetlaw08.BlockTakes', WHERE WHAT IT READS IS OF BULK AT MOST 1048576: true; the input reads as it did. -/
def blockTakesUptoRow : OpenClaim := { program := "ytnggbhpnpomfjaa", sum := "6e5bbf29d3bf450961be8cf690e21ef58ce0e49dabd7e8c120b14b5caad9ad19", func := "grommet/grommetlaw08.BlockTakes", spec := "blockTakes", inPlace := ["internal/abi.NoEscape", "internal/bytealg.MakeNoZero"], unfollowed := true, recurses := true, apart := false, narrowed := true }
def BlockTakesUptoSaid : Prop := blockTakesUptoRow.holds Try.pinned (OpenSpec.upto blockTakesSpec)

/-- 'grommetlaw08.BlockEnds', WHERE WHAT IT READS IS OF BULK AT MOST 1048576: true; the input reads as it did. -/
def blockEndsUptoRow : OpenClaim := { program := "ytnggbhpnpomfjaa", sum := "6e5bbf29d3bf450961be8cf690e21ef58ce0e49dabd7e8c120b14b5caad9ad19", func := "grommet/grommetlaw08.BlockEnds", spec := "blockEnds", inPlace := ["internal/abi.NoEscape", "internal/bytealg.MakeNoZero"], unfollowed := true, recurses := true, apart := false, narrowed := true }
def BlockEndsUptoSaid : Prop := blockEndsUptoRow.holds Try.pinned (OpenSpec.upto blockEndsSpec)

/-- 'grommetlaw08.BlockFlat', WHERE WHAT IT READS IS OF BULK AT MOST 1048576: true; the input reads as it did. -/
def blockFlatUptoRow : OpenClaim := { program := "ytnggbhpnpomfjaa", sum := "6e5bbf29d3bf450961be8cf690e21ef58ce0e49dabd7e8c120b14b5caad9ad19", func := "grommet/grommetlaw08.BlockFlat", spec := "blockFlat", inPlace := ["internal/abi.NoEscape", "internal/bytealg.MakeNoZero"], unfollowed := true, recurses := true, apart := false, narrowed := true }
def BlockFlatUptoSaid : Prop := blockFlatUptoRow.holds Try.pinned (OpenSpec.upto blockFlatSpec)

/-- 'grommetlaw08.BlockHeads', WHERE WHAT IT READS IS OF BULK AT MOST 1048576: true; the input reads as it did. -/
def blockHeadsUptoRow : OpenClaim := { program := "ytnggbhpnpomfjaa", sum := "6e5bbf29d3bf450961be8cf690e21ef58ce0e49dabd7e8c120b14b5caad9ad19", func := "grommet/grommetlaw08.BlockHeads", spec := "blockHeads", inPlace := ["internal/abi.NoEscape", "internal/bytealg.MakeNoZero"], unfollowed := true, recurses := true, apart := false, narrowed := true }
def BlockHeadsUptoSaid : Prop := blockHeadsUptoRow.holds Try.pinned (OpenSpec.upto blockHeadsSpec)

/-- 'grommetlaw08.BlockMarks', WHERE WHAT IT READS IS OF BULK AT MOST 1048576: true; the input reads as it did. -/
def blockMarksUptoRow : OpenClaim := { program := "ytnggbhpnpomfjaa", sum := "6e5bbf29d3bf450961be8cf690e21ef58ce0e49dabd7e8c120b14b5caad9ad19", func := "grommet/grommetlaw08.BlockMarks", spec := "blockMarks", inPlace := ["internal/abi.NoEscape", "internal/bytealg.MakeNoZero"], unfollowed := true, recurses := true, apart := false, narrowed := true }
def BlockMarksUptoSaid : Prop := blockMarksUptoRow.holds Try.pinned (OpenSpec.upto blockMarksSpec)

end Rows
end Go.Proofs.Ytnggbhpnpomfjaa
