/-
  No cell of these rows narrows 'for every input' (looked for: loops, veiled, ifaces, maps, wideKeys, modest, calm, conditions, laid).
  DERIVED. THE GIVEN ROWS OF THIS SEAT. 6 by the template 'for every input the law returns true; each argument reads behind the call as it read before'; 0 by the template 'total and deterministic' (their statements: YtiaonfmdjipekaaTotals.lean).
  GIVEN WITH THE SEED: the statements are not yours to turn. If you find one false, say at which input.
  Laid BY PROGRAM, IN A SANDBOX (cutbox-rows.mjs): the forced cells as the released guide's own fill.sh prints them over the translation 984238f636be0bd6… (all of the seat's roots in one cut). By AI agents, Wed Nov 11 2026. No macro, syntax, notation, axiom, sorry.
-/
import Derived.Test.YtiaonfmdjipekaaChecked
import GoSem.Claim
import GoSem.ClaimJoined
import GoSem.ClaimMapViews
import Derived.JoinedTies
import Derived.KernelRfl
namespace Go.Proofs.Ytiaonfmdjipekaa
/- THE CELL 'sum', in the pinned program and in every row, IS THE sha256 OF THE DUMP (.gsa) THAT YtiaonfmdjipekaaProg.lean LOADS. Nothing in Lean hashes anything: it is a label: what it is worth is what the hold of that sum in a sandbox is worth. -/
noncomputable def Try.pinned : Pinned := { name := "ytiaonfmdjipekaa", sum := "984238f636be0bd66eddedd941d99ebc705e4f700517c32c12b80a3ac02226f2", checked := Try.checked }
namespace Rows
def none {H : Type} : Left H := { results := [], args := [] }

/-- 'grommetlaw18.LeaseGone': WHATEVER THE INPUT: true; the input reads as it did. -/
def leaseGoneSpec : ChangeSpec := { name := "leaseGone", fn := fun _ => fun
  | [d1, d2, d3] => { results := [.lit (.bool true)], args := [d1, d2, d3] }
  | _ => none }
def leaseGoneRow : OpenClaim := { program := "ytiaonfmdjipekaa", sum := "984238f636be0bd66eddedd941d99ebc705e4f700517c32c12b80a3ac02226f2", func := "grommet/grommetlaw18.LeaseGone", spec := "leaseGone", unfollowed := true, recurses := true, apart := false }
def LeaseGoneSaid : Prop := leaseGoneRow.holds Try.pinned (OpenSpec.ofChange leaseGoneSpec)

/-- ITS FALSE NEIGHBOUR: 'it returns false'. Refute it at one input. -/
def leaseGoneWrong : ChangeSpec := { name := "leaseGone", fn := fun _ => fun
  | [d1, d2, d3] => { results := [.lit (.bool false)], args := [d1, d2, d3] }
  | _ => none }
def LeaseGoneWrongFalsely : Prop := leaseGoneRow.holds Try.pinned (OpenSpec.ofChange leaseGoneWrong)

/-- 'grommetlaw18.LeaseFull': WHATEVER THE INPUT: true; the input reads as it did. -/
def leaseFullSpec : ChangeSpec := { name := "leaseFull", fn := fun _ => fun
  | [d1, d2] => { results := [.lit (.bool true)], args := [d1, d2] }
  | _ => none }
def leaseFullRow : OpenClaim := { program := "ytiaonfmdjipekaa", sum := "984238f636be0bd66eddedd941d99ebc705e4f700517c32c12b80a3ac02226f2", func := "grommet/grommetlaw18.LeaseFull", spec := "leaseFull", unfollowed := true, recurses := true, apart := false }
def LeaseFullSaid : Prop := leaseFullRow.holds Try.pinned (OpenSpec.ofChange leaseFullSpec)

/-- ITS FALSE NEIGHBOUR: 'it returns false'. Refute it at one input. -/
def leaseFullWrong : ChangeSpec := { name := "leaseFull", fn := fun _ => fun
  | [d1, d2] => { results := [.lit (.bool false)], args := [d1, d2] }
  | _ => none }
def LeaseFullWrongFalsely : Prop := leaseFullRow.holds Try.pinned (OpenSpec.ofChange leaseFullWrong)

/-- 'grommetlaw18.LeasePlays': WHATEVER THE INPUT: true; the input reads as it did. -/
def leasePlaysSpec : ChangeSpec := { name := "leasePlays", fn := fun _ => fun
  | [d] => { results := [.lit (.bool true)], args := [d] }
  | _ => none }
def leasePlaysRow : OpenClaim := { program := "ytiaonfmdjipekaa", sum := "984238f636be0bd66eddedd941d99ebc705e4f700517c32c12b80a3ac02226f2", func := "grommet/grommetlaw18.LeasePlays", spec := "leasePlays", unfollowed := true, recurses := true, apart := false }
def LeasePlaysSaid : Prop := leasePlaysRow.holds Try.pinned (OpenSpec.ofChange leasePlaysSpec)

/-- ITS FALSE NEIGHBOUR: 'it returns false'. Refute it at one input. -/
def leasePlaysWrong : ChangeSpec := { name := "leasePlays", fn := fun _ => fun
  | [d] => { results := [.lit (.bool false)], args := [d] }
  | _ => none }
def LeasePlaysWrongFalsely : Prop := leasePlaysRow.holds Try.pinned (OpenSpec.ofChange leasePlaysWrong)

/-- 'grommetlaw18.LeaseDue': WHATEVER THE INPUT: true; the input reads as it did. -/
def leaseDueSpec : ChangeSpec := { name := "leaseDue", fn := fun _ => fun
  | [d1, d2] => { results := [.lit (.bool true)], args := [d1, d2] }
  | _ => none }
def leaseDueRow : OpenClaim := { program := "ytiaonfmdjipekaa", sum := "984238f636be0bd66eddedd941d99ebc705e4f700517c32c12b80a3ac02226f2", func := "grommet/grommetlaw18.LeaseDue", spec := "leaseDue", unfollowed := true, recurses := true, apart := false }
def LeaseDueSaid : Prop := leaseDueRow.holds Try.pinned (OpenSpec.ofChange leaseDueSpec)

/-- ITS FALSE NEIGHBOUR: 'it returns false'. Refute it at one input. -/
def leaseDueWrong : ChangeSpec := { name := "leaseDue", fn := fun _ => fun
  | [d1, d2] => { results := [.lit (.bool false)], args := [d1, d2] }
  | _ => none }
def LeaseDueWrongFalsely : Prop := leaseDueRow.holds Try.pinned (OpenSpec.ofChange leaseDueWrong)

/-- 'grommetlaw18.LeaseSame': WHATEVER THE INPUT: true; the input reads as it did. -/
def leaseSameSpec : ChangeSpec := { name := "leaseSame", fn := fun _ => fun
  | [d] => { results := [.lit (.bool true)], args := [d] }
  | _ => none }
def leaseSameRow : OpenClaim := { program := "ytiaonfmdjipekaa", sum := "984238f636be0bd66eddedd941d99ebc705e4f700517c32c12b80a3ac02226f2", func := "grommet/grommetlaw18.LeaseSame", spec := "leaseSame", unfollowed := true, recurses := true, apart := false }
def LeaseSameSaid : Prop := leaseSameRow.holds Try.pinned (OpenSpec.ofChange leaseSameSpec)

/-- ITS FALSE NEIGHBOUR: 'it returns false'. Refute it at one input. -/
def leaseSameWrong : ChangeSpec := { name := "leaseSame", fn := fun _ => fun
  | [d] => { results := [.lit (.bool false)], args := [d] }
  | _ => none }
def LeaseSameWrongFalsely : Prop := leaseSameRow.holds Try.pinned (OpenSpec.ofChange leaseSameWrong)

/-- 'grommetlaw18.LeaseNobody': WHATEVER THE INPUT: true; the input reads as it did. -/
def leaseNobodySpec : ChangeSpec := { name := "leaseNobody", fn := fun _ => fun
  | [d] => { results := [.lit (.bool true)], args := [d] }
  | _ => none }
def leaseNobodyRow : OpenClaim := { program := "ytiaonfmdjipekaa", sum := "984238f636be0bd66eddedd941d99ebc705e4f700517c32c12b80a3ac02226f2", func := "grommet/grommetlaw18.LeaseNobody", spec := "leaseNobody", unfollowed := true, recurses := true, apart := false }
def LeaseNobodySaid : Prop := leaseNobodyRow.holds Try.pinned (OpenSpec.ofChange leaseNobodySpec)

/-- ITS FALSE NEIGHBOUR: 'it returns false'. Refute it at one input. -/
def leaseNobodyWrong : ChangeSpec := { name := "leaseNobody", fn := fun _ => fun
  | [d] => { results := [.lit (.bool false)], args := [d] }
  | _ => none }
def LeaseNobodyWrongFalsely : Prop := leaseNobodyRow.holds Try.pinned (OpenSpec.ofChange leaseNobodyWrong)

/- THE SECOND FORM. 'bulk': how many values and letters a reading holds, each counted each time it is reached (what is shared counts as often as it is met; a slice's spare places count too). A statement '..UptoSaid' is the law's where the arguments, and the package variables that the reading takes, are together of bulk at most 1048576: NARROWER than '..Said'. Prove '..Said' where nothing that the law and all that it calls make is longer than what came in: it says more and counts as full. Else prove '..UptoSaid'. A law counts once. -/
mutual
def uptoBulk {H : Type} : DataW H → Nat
  | .lit (.string bytes) => bytes.length + 1
  | .lit _ => 1
  | .nil => 1
  | .ptr d => uptoBulk d + 1
  | .slice elems spare => uptoBulkAll elems + uptoBulkAll spare + 1
  | .agg parts => uptoBulkAll parts + 1
  | .iface _ d => uptoBulk d + 1
  | .map entries => uptoBulkEntries entries + 1
  | .held _ => 1
def uptoBulkAll {H : Type} : List (DataW H) → Nat
  | [] => 0
  | d :: r => uptoBulk d + uptoBulkAll r
def uptoBulkEntries {H : Type} : List (Lit × DataW H) → Nat
  | [] => 0
  | x :: r => uptoBulkEntry x + uptoBulkEntries r
def uptoBulkEntry {H : Type} : Lit × DataW H → Nat
  | (.string bytes, d) => bytes.length + uptoBulk d + 1
  | (_, d) => uptoBulk d + 1
 end
def uptoSmall : (H : Type) → List (DataW H) → Bool := fun _ ds => decide (uptoBulkAll ds ≤ 1048576)
def OpenSpec.upto (s : _root_.Go.ChangeSpec) : _root_.Go.OpenSpec := { _root_.Go.OpenSpec.ofChange s with cond := some uptoSmall }

/-- 'grommetlaw18.LeaseGone', WHERE WHAT IT READS IS OF BULK AT MOST 1048576: true; the input reads as it did. -/
def leaseGoneUptoRow : OpenClaim := { program := "ytiaonfmdjipekaa", sum := "984238f636be0bd66eddedd941d99ebc705e4f700517c32c12b80a3ac02226f2", func := "grommet/grommetlaw18.LeaseGone", spec := "leaseGone", unfollowed := true, recurses := true, apart := false, narrowed := true }
def LeaseGoneUptoSaid : Prop := leaseGoneUptoRow.holds Try.pinned (OpenSpec.upto leaseGoneSpec)

/-- 'grommetlaw18.LeaseFull', WHERE WHAT IT READS IS OF BULK AT MOST 1048576: true; the input reads as it did. -/
def leaseFullUptoRow : OpenClaim := { program := "ytiaonfmdjipekaa", sum := "984238f636be0bd66eddedd941d99ebc705e4f700517c32c12b80a3ac02226f2", func := "grommet/grommetlaw18.LeaseFull", spec := "leaseFull", unfollowed := true, recurses := true, apart := false, narrowed := true }
def LeaseFullUptoSaid : Prop := leaseFullUptoRow.holds Try.pinned (OpenSpec.upto leaseFullSpec)

/-- 'grommetlaw18.LeasePlays', WHERE WHAT IT READS IS OF BULK AT MOST 1048576: true; the input reads as it did. -/
def leasePlaysUptoRow : OpenClaim := { program := "ytiaonfmdjipekaa", sum := "984238f636be0bd66eddedd941d99ebc705e4f700517c32c12b80a3ac02226f2", func := "grommet/grommetlaw18.LeasePlays", spec := "leasePlays", unfollowed := true, recurses := true, apart := false, narrowed := true }
def LeasePlaysUptoSaid : Prop := leasePlaysUptoRow.holds Try.pinned (OpenSpec.upto leasePlaysSpec)

/-- 'grommetlaw18.LeaseDue', WHERE WHAT IT READS IS OF BULK AT MOST 1048576: true; the input reads as it did. -/
def leaseDueUptoRow : OpenClaim := { program := "ytiaonfmdjipekaa", sum := "984238f636be0bd66eddedd941d99ebc705e4f700517c32c12b80a3ac02226f2", func := "grommet/grommetlaw18.LeaseDue", spec := "leaseDue", unfollowed := true, recurses := true, apart := false, narrowed := true }
def LeaseDueUptoSaid : Prop := leaseDueUptoRow.holds Try.pinned (OpenSpec.upto leaseDueSpec)

/-- 'grommetlaw18.LeaseSame', WHERE WHAT IT READS IS OF BULK AT MOST 1048576: true; the input reads as it did. -/
def leaseSameUptoRow : OpenClaim := { program := "ytiaonfmdjipekaa", sum := "984238f636be0bd66eddedd941d99ebc705e4f700517c32c12b80a3ac02226f2", func := "grommet/grommetlaw18.LeaseSame", spec := "leaseSame", unfollowed := true, recurses := true, apart := false, narrowed := true }
def LeaseSameUptoSaid : Prop := leaseSameUptoRow.holds Try.pinned (OpenSpec.upto leaseSameSpec)

/-- 'grommetlaw18.LeaseNobody', WHERE WHAT IT READS IS OF BULK AT MOST 1048576: true; the input reads as it did. -/
def leaseNobodyUptoRow : OpenClaim := { program := "ytiaonfmdjipekaa", sum := "984238f636be0bd66eddedd941d99ebc705e4f700517c32c12b80a3ac02226f2", func := "grommet/grommetlaw18.LeaseNobody", spec := "leaseNobody", unfollowed := true, recurses := true, apart := false, narrowed := true }
def LeaseNobodyUptoSaid : Prop := leaseNobodyUptoRow.holds Try.pinned (OpenSpec.upto leaseNobodySpec)

end Rows
end Go.Proofs.Ytiaonfmdjipekaa
