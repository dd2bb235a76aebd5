/- Walks: lines joined by what stands between two, and the program's Fold. Conditions: the lines are no more than 10^6, their bytes no more than 10^9. -/
import Derived.Test.YtnggbhpnpomfjaaDoorBlRFold
import Derived.Test.YtnggbhpnpomfjaaDoorBuildS
set_option linter.unusedVariables false
namespace Go.Proofs.YtnggbhpnpomfjaaDoor.Bl
open Go.RowKit
theorem bl_built_below {T e : TypeId} {B b : Nat} {bs : List Value} {W W' : World} (h : Lib.IsBuilderF T e B b bs W) (hb : Below W.heap.size W W') : Lib.IsBuilderF T e B b bs W' := by
  have key : ∀ p, Lib.BuilderAtF T e B b p bs W → Lib.BuilderAtF T e B b p bs W' := by
    intro p h
    have hlt := h.lt
    obtain ⟨hB, v, hv, hown, hne⟩ := h
    exact ⟨hB, v, (hb.block b hlt).trans hv, hown.kept (row := none) ⟨hb.os, hb.tape, hb.output, hb.size, fun k hk _ => hb.block k hk⟩ (Classical.em _), hne⟩
  exact h.elim (fun x => .inl (key _ x)) (fun x => .inr (key _ x))
theorem bl_str (s : ByteArray) : (⟨s.data.toList.toArray⟩ : ByteArray) = s := by cases s; simp
/-- what stands ahead of a line, and the line -/
theorem ahead_pos (L : List (List UInt8)) {k : Nat} (h : 0 < k) : ahead L k = foldTo L k ++ sepL L (k - 1) := by unfold ahead; rw [if_neg (by omega)]
set_option maxRecDepth 100000 in
set_option maxHeartbeats 3200000 in
theorem joined_any (A : Option Addr) (c : Nat) (ss : List ByteArray) (caps : Array Value) (w : World) (g : StrsIn w A c ss) (hl : ss.length ≤ 1000000) (hbk : bulkL (lns ss) ≤ 1000000000)
    (HB : ∀ (k : Nat) W, k + 1 < ss.length → Below w.heap.size w W → Calls Tryd.prog 110 (#[.int .i64 (k : Nat), .int .i64 ((k + 1 : Nat) : Int)] ++ caps) W fun e w' => ∃ s : ByteArray, e = .returned (.string s) ∧ s.data.toList = sepL (lns ss) k ∧ Below W.heap.size W w') :
    Calls Tryd.prog 109 #[.slice A ss.length c, .func (.func 110) #[] caps] w fun e w' => e = .returned (.string ⟨(foldL (lns ss)).toArray⟩) ∧ Below w.heap.size w w' := by
  have G := Lib.hid g
  have HBT := Lib.hid HB
  have HLN := Lib.hid (lns_length ss)
  have HI0 := Lib.hid (Lib.IsBuilderF.of (Lib.fresh_isBuilder 76 5 w))
  have HB0 := Lib.hid ((Below.refl w.heap.size w).alloc (Nat.le_refl _) (.cells #[.pointer none, .slice none 0 0] 76))
  have HSZ : Hid (∀ k, k < ss.length → (foldTo (lns ss) k).length ≤ 1001000000 ∧ (ahead (lns ss) k).length ≤ 1001000001 ∧ (ss.getD k ByteArray.empty).size ≤ 1000000000) := by
    intro k hk
    have h1 := foldTo_le (lns ss) k (by rw [lns_length]; omega)
    have h2 := bulk_take_le (lns ss) k
    have h3 := sepL_le (lns ss) (k - 1)
    have h6 := line_le (lns ss) k (by rw [lns_length]; omega)
    have e2 : (ss.getD k ByteArray.empty).size = ((lns ss).getD k []).length := by rw [lns_at ss k hk]; rfl
    have e4 : (ahead (lns ss) k).length ≤ (foldTo (lns ss) k).length + 1 := by
      unfold ahead; rw [List.length_append]; split
      · simp
      · omega
    omega
  clear g HB
  go_enter Tryd.func109, Tryd.ntmps109
  go_wp2_with fail
  go_loopw [10] (fun v wr => ∃ k : Nat, k ≤ ss.length ∧ v = .int .i64 (k : Nat) ∧ Hid (Lib.IsBuilderF 76 5 w.heap.size w.heap.size (Lib.byteCells (foldTo (lns ss) k)) wr) ∧ Hid (Below w.heap.size w wr)) (fun v _ => ss.length - (intOf v).toNat)
  case atStart => exact ⟨0, Nat.zero_le _, rfl, HI0.out, HB0.out⟩
  case round =>
    obtain ⟨k, hk, rfl, hi, hb⟩ := hrel
    by_cases hlt : k < ss.length
    · have hlt' : (k : Int) < (ss.length : Int) := by omega
      obtain ⟨b, off, hA, hbl, hc⟩ := (G.out.below hb.out).at_ k hlt
      have HAT := Lib.hid (lns_at ss k hlt)
      obtain ⟨z1, z2, z3⟩ := HSZ.out k hlt
      generalize ss.getD k ByteArray.empty = s at hc HAT z3
      subst hA
      by_cases h0 : k = 0
      · have HQ : Hid (Lib.byteCells (foldTo (lns ss) k) ++ Lib.byteCells s.data.toList = Lib.byteCells (foldTo (lns ss) (k + 1))) := by
          show _ = _; rw [← HAT.out, h0]; rfl
        have W := Lib.hid (writeString_any w.heap.size w.heap.size _ s wr hi.out (by rw [Lib.byteCells_length]; omega) hb.out.size)
        have hgt : decide (0 < k) = false := decide_eq_false (by omega)
        clear hi h0
        go_wp2_with fail
        refine W.out.mono ?_
        rintro e w2 ⟨rfl, hI, hB, hK⟩
        have HI : Hid (Lib.IsBuilderF 76 5 w.heap.size w.heap.size (Lib.byteCells (foldTo (lns ss) (k + 1))) w2) := by
          rw [HQ.out] at hI; exact Or.inr hI
        have HBB := Lib.hid (hb.out.trans hB)
        clear hI hB hK
        go_wp2_with fail
        go_roundw
        case rel => exact ⟨k + 1, by omega, by go_num, HI.out, HBB.out⟩
        case measure => simp [intOf]; omega
      · have hgt : decide ((k : Int) > 0) = true := decide_eq_true (by omega)
        have bt := HBT.out (k - 1) wr (by omega) hb.out
        rw [show ((k - 1 : Nat) : Int) = (k : Int) - 1 by omega, show k - 1 + 1 = k by omega] at bt
        have BT := Lib.hid bt
        have HQ : Hid (foldTo (lns ss) k ++ sepL (lns ss) (k - 1) = ahead (lns ss) k) := (ahead_pos _ (by omega)).symm
        have HQ2 : Hid (Lib.byteCells (ahead (lns ss) k) ++ Lib.byteCells s.data.toList = Lib.byteCells (foldTo (lns ss) (k + 1))) := by
          show _ = _; rw [← HAT.out, ← Lib.byteCells_append]; rfl
        clear bt
        go_wp2_with fail
        refine BT.out.mono ?_
        rintro e w1 ⟨t, rfl, ht, hbt⟩
        have HT := Lib.hid ht
        have hzt : t.size ≤ 1 := by
          have := sepL_le (lns ss) (k - 1)
          rw [← ht] at this
          exact this
        have HB1 := Lib.hid (hb.out.trans (hbt.mono hb.out.size))
        have W := Lib.hid (writeString_any w.heap.size w.heap.size _ t w1 (bl_built_below hi.out hbt) (by rw [Lib.byteCells_length]; omega) HB1.out.size)
        clear hi hbt ht
        go_wp2_with fail
        refine W.out.mono ?_
        rintro e w2 ⟨rfl, hI, hB, hK⟩
        have hI2 : Lib.IsBuilderF 76 5 w.heap.size w.heap.size (Lib.byteCells (ahead (lns ss) k)) w2 := by
          rw [← Lib.byteCells_append, HT.out, HQ.out] at hI; exact Or.inr hI
        have HB2 := Lib.hid (HB1.out.trans hB)
        have W2 := Lib.hid (writeString_any w.heap.size w.heap.size _ s w2 hI2 (by rw [Lib.byteCells_length]; omega) HB2.out.size)
        clear hI hI2 hB hK W
        go_wp2_with fail
        refine W2.out.mono ?_
        rintro e w3 ⟨rfl, hI, hB, hK⟩
        have HI : Hid (Lib.IsBuilderF 76 5 w.heap.size w.heap.size (Lib.byteCells (foldTo (lns ss) (k + 1))) w3) := by
          rw [HQ2.out] at hI; exact Or.inr hI
        have HBB := Lib.hid (HB2.out.trans hB)
        clear hI hB hK
        go_wp2_with fail
        go_roundw
        case rel => exact ⟨k + 1, by omega, by go_num, HI.out, HBB.out⟩
        case measure => simp [intOf]; omega
    · obtain rfl : k = ss.length := by omega
      have S := Lib.hid (Tryd.Builder_String_any_k w.heap.size w.heap.size (foldTo (lns ss) ss.length) wr hi.out hb.out.size)
      clear hi
      go_wp2_with fail
      refine S.out.mono ?_
      rintro e w2 ⟨rfl, _, hB, _⟩
      have HBB := Lib.hid (hb.out.trans hB)
      clear hB
      go_wp2_with fail
      go_ret
      exact ⟨by unfold foldL; rw [HLN.out]; rfl, HBB.out⟩
end Go.Proofs.YtnggbhpnpomfjaaDoor.Bl
