/- Walk: the document's Fold. Conditions: the lines are no more than 10^6, their bytes no more than 10^9. -/
import Derived.Test.YtnggbhpnpomfjaaDoorBlStr
set_option linter.unusedVariables false
namespace Go.Proofs.YtnggbhpnpomfjaaDoor.Bl
open Go.RowKit
theorem cat_data (a b : ByteArray) : (a ++ b).data.toList = a.data.toList ++ b.data.toList := by simp
theorem str_ret {a b : ByteArray} (h : a.data.toList = b.data.toList) : Ending.returned (.string a) = Ending.returned (.string b) := by
  have : a = b := by
    cases a; cases b
    congr 1
    exact Array.toList_inj.1 h
  rw [this]
/-- what stands ahead of a line -/
def ahead (L : List (List UInt8)) (k : Nat) : List UInt8 := foldTo L k ++ (if k = 0 then [] else sepL L (k - 1))
theorem ahead_line (L : List (List UInt8)) (k : Nat) : ahead L k ++ L.getD k [] = foldTo L (k + 1) := rfl
theorem ahead_next (L : List (List UInt8)) (k : Nat) : foldTo L (k + 1) ++ sepL L k = ahead L (k + 1) := by
  unfold ahead; rw [if_neg (by omega)]; rfl
end Go.Proofs.YtnggbhpnpomfjaaDoor.Bl
