/- A world that holds the library's variables as they are laid. Conditions: none. -/
import Derived.Test.YtpgncjfmaeiaaaaDoorIsOpen
set_option linter.unusedVariables false
namespace Go.Proofs.YtpgncjfmaeiaaaaDoor.Is
open Go.RowKit
def layCells (vs : List Value) : Obj → Obj
  | .cells _ t frozen => .cells vs.toArray t frozen
  | o => o
/-- the data's own numbers -/
def litVals : DataW Unit → List Value
  | .agg l => l.filterMap fun d => match d with | .lit (.int k n) => some (.int k n) | _ => none
  | _ => []
def strRange : ByteArray := ⟨#[118, 97, 108, 117, 101, 32, 111, 117, 116, 32, 111, 102, 32, 114, 97, 110, 103, 101]⟩
def strSyntax : ByteArray := ⟨#[105, 110, 118, 97, 108, 105, 100, 32, 115, 121, 110, 116, 97, 120]⟩
noncomputable def laidWorld (os : Os) : World :=
  let w0 := World.holding Tryd.prog os ⟨#[], #[], []⟩
  let n := w0.heap.size
  let h0 := (w0.heap.modify 2 (layCells ((List.range 256).map fun c => Value.int .u8 (Lib.firstT c)))).modify 3 (layCells ((List.range 16).flatMap fun i => [Value.int .u8 (Lib.accLo i), Value.int .u8 (Lib.accHi i)]))
  let h1 := ((h0.modify 4 (layCells (litVals Rows.laid_internal_strconv_uint64pow10))).modify 5 (layCells (litVals Rows.laid_math_bits_deBruijn32tab))).modify 6 (layCells (litVals Rows.laid_math_bits_deBruijn64tab))
  let h2 := (h1.modify 1 (layCells [.iface 131 (.pointer (some ⟨n, 0, none⟩))])).modify 0 (layCells [.iface 131 (.pointer (some ⟨n + 1, 0, none⟩))])
  { w0 with heap := (h2.push (.cells #[.string strRange] 133 (0, 0))).push (.cells #[.string strSyntax] 133 (0, 0)) }
end Go.Proofs.YtpgncjfmaeiaaaaDoor.Is
