/- Walks: the document's Check and Count. Conditions: strings within the model's bounds. -/
import Derived.Test.YtpgncjfmaeiaaaaDoorUtChk
set_option linter.unusedVariables false
namespace Go.Proofs.YtpgncjfmaeiaaaaDoor
open Go.RowKit
/-- what a round of a loop over a text, sign by sign, needs -/
structure Rest (s : ByteArray) (k : Nat) (t : ByteArray) (r : Int) (n : Nat) : Prop where
  slice : ∀ W, (Instr.sliceAt 9 (.string s) (some (.int .i64 (k : Int))) none none).run Tryd.prog W = .ok (.string t) W
  first : ∀ W, Calls Tryd.prog 54 #[.string t] W fun e w' => e = .returned (.tuple #[.int .i64 r, .int .i64 (n : Nat)]) ∧ Below W.heap.size W w'
  pos : 1 ≤ n
  le : k + n ≤ s.size
  lo : -1 ≤ r
  hi : r ≤ 1114111
  yes : ∀ p : Int → Bool, p r = true → walkL p (s.data.toList.drop k) = (r :: (walkL p (s.data.toList.drop (k + n))).1, n + (walkL p (s.data.toList.drop (k + n))).2)
  no : ∀ p : Int → Bool, p r = false → walkL p (s.data.toList.drop k) = ([], 0)
theorem rest_any (s : ByteArray) (k : Nat) (hk : k < s.size) (hm : s.size ≤ 9223372036854775807) : ∃ t r n, Rest s k t r n := by
  have HLN : s.data.toList.length = s.size := rfl
  have hne : s.data.toList.drop k ≠ [] := by
    intro e
    have := congrArg List.length e
    rw [List.length_drop, HLN] at this
    simp at this; omega
  have hpos := firstL_pos hne
  have hrg := firstL_range (l := s.data.toList.drop k)
  have hs := slice_str s k (by omega) hm
  have htl : (s.extract k s.size).data.toList = s.data.toList.drop k := by rw [Lib.extract_to_end]
  have hts : (s.extract k s.size).size ≤ 9223372036854775807 := by
    have : (s.extract k s.size).data.toList.length = s.size - k := by rw [htl, List.length_drop, HLN]
    have e : (s.extract k s.size).size = (s.extract k s.size).data.toList.length := rfl
    omega
  rw [List.length_drop, HLN] at hpos
  refine ⟨s.extract k s.size, (firstL (s.data.toList.drop k)).1, (firstL (s.data.toList.drop k)).2, hs, fun W => ?_, hpos.1, by omega, hrg.1, hrg.2, fun p hp => ?_, fun p hp => walkL_no hp⟩
  · have := rfirst_any (s.extract k s.size) W hts
    rw [htl] at this
    exact this
  · rw [walkL_yes hne hp, List.drop_drop]
end Go.Proofs.YtpgncjfmaeiaaaaDoor
