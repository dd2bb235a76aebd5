/- Walk: the law's own probe: both kinds of blocks. Conditions: none. -/
import Derived.Test.YtnggbhpnpomfjaaDoorBlHead
set_option linter.unusedVariables false
namespace Go.Proofs.YtnggbhpnpomfjaaDoor.Bl
open Go.RowKit
def aliveRows : List Rw := [⟨2, ⟨#[97]⟩, 2⟩, ⟨3, ⟨#[98]⟩, 3⟩, ⟨0, ⟨#[99]⟩, 4⟩]
theorem alive_take : takeV aliveRows 0 false 0 = .tuple #[.string ⟨#[97, 10, 32, 98, 10]⟩, .int .i64 2, .agg #[.int .i64 0, .int .i64 0]] := by
  have h1 : cntT aliveRows 0 = 2 := by decide +kernel
  have h2 : badAt aliveRows 2 = none := by decide +kernel
  have h3 : textT aliveRows 2 false 0 = [97, 10, 32, 98, 10] := by decide +kernel
  unfold takeV
  rw [h1, h2]
  simp only [h3]
  rfl
set_option maxHeartbeats 1600000 in
theorem alive_any (w : World) : Calls Tryd.prog 49 #[] w fun e w' => e = .returned (.bool true) ∧ Below w.heap.size w w' := by
  obtain ⟨W1, hW1⟩ : ∃ W, W = w.alloc (.cells #[.int .i64 2, .string ⟨#[97]⟩, .int .i64 2, .int .i64 3, .string ⟨#[98]⟩, .int .i64 3, .int .i64 0, .string ⟨#[99]⟩, .int .i64 4] 53) := ⟨_, rfl⟩
  have hb1 : Below w.heap.size w W1 := by rw [hW1]; exact (Below.refl _ _).alloc (Nat.le_refl _) _
  have hh := heap_alloc_new w (.cells #[.int .i64 2, .string ⟨#[97]⟩, .int .i64 2, .int .i64 3, .string ⟨#[98]⟩, .int .i64 3, .int .i64 0, .string ⟨#[99]⟩, .int .i64 4] 53)
  rw [← hW1] at hh
  have g : RowsIn W1 (some ⟨w.heap.size, 0, none⟩) 3 aliveRows := ⟨fun i hi => by
    obtain rfl | rfl | rfl : i = 0 ∨ i = 1 ∨ i = 2 := by have : i < 3 := hi; omega
    all_goals exact ⟨w.heap.size, 0, rfl, bl_block_lt hh, by rw [bl_block_cell hh]; rfl, by rw [bl_block_cell hh]; rfl, by rw [bl_block_cell hh]; rfl⟩, fun i hi => by
    obtain rfl | rfl | rfl : i = 0 ∨ i = 1 ∨ i = 2 := by have : i < 3 := hi; omega
    all_goals (refine ⟨?_, ?_, ?_, ?_⟩ <;> decide), by decide⟩
  have TK := take_any (some ⟨w.heap.size, 0, none⟩) 3 aliveRows 0 false 0 W1 g (by decide) (by decide)
  rw [alive_take, show aliveRows.length = 3 from rfl, hW1] at TK
  have TKH := Lib.hid TK
  have HB1 := Lib.hid hb1
  have E1 := Lib.hid hW1
  have HD := Lib.hid (fun W => head_any ⟨#[62, 45]⟩ W)
  have hhd : headV (⟨#[62, 45]⟩ : ByteArray).data.toList = .tuple #[.agg #[.bool true, .int .i64 1], .bool true] := rfl
  rw [hhd] at HD
  have FD : Hid (∀ W n, W.heap.size = n → Calls Tryd.prog 84 #[.slice (some ⟨n, 0, none⟩) 4 4] (W.alloc (.cells #[.string ⟨#[97]⟩, .string ⟨#[98]⟩, .string ⟨#[]⟩, .string ⟨#[99]⟩] 9)) fun e w' => e = .returned (.string ⟨#[97, 32, 98, 10, 99]⟩) ∧ Below W.heap.size W w') := fun W n hn => by
    subst hn
    have hh := heap_alloc_new W (.cells #[.string ⟨#[97]⟩, .string ⟨#[98]⟩, .string ⟨#[]⟩, .string ⟨#[99]⟩] 9)
    have g : StrsIn (W.alloc (.cells #[.string ⟨#[97]⟩, .string ⟨#[98]⟩, .string ⟨#[]⟩, .string ⟨#[99]⟩] 9)) (some ⟨W.heap.size, 0, none⟩) 4 [⟨#[97]⟩, ⟨#[98]⟩, ⟨#[]⟩, ⟨#[99]⟩] := ⟨fun i hi => by
      obtain rfl | rfl | rfl | rfl : i = 0 ∨ i = 1 ∨ i = 2 ∨ i = 3 := by have : i < 4 := hi; omega
      all_goals exact ⟨W.heap.size, 0, rfl, bl_block_lt hh, by rw [bl_block_cell hh]; rfl⟩, by decide⟩
    have h := fold_any _ _ _ _ g (by decide) (by decide)
    have e : foldL (lns [⟨#[97]⟩, ⟨#[98]⟩, ⟨#[]⟩, ⟨#[99]⟩]) = [97, 32, 98, 10, 99] := by decide +kernel
    rw [e] at h
    exact h.mono fun e w' ⟨h1, h2⟩ => ⟨h1, ((Below.refl _ _).alloc (Nat.le_refl _) _).trans (h2.mono (by simp))⟩
  have s1 : ((⟨#[97, 10, 32, 98, 10]⟩ : ByteArray).toList == (⟨#[97, 10, 32, 98, 10]⟩ : ByteArray).toList) = true := beq_self_eq_true _
  have s2 : ((⟨#[97, 32, 98, 10, 99]⟩ : ByteArray).toList == (⟨#[97, 32, 98, 10, 99]⟩ : ByteArray).toList) = true := beq_self_eq_true _
  clear TK hb1 hW1 hh g hhd
  go_enter Tryd.func49, Tryd.ntmps49
  go_wp2_with fail
  refine TKH.out.mono ?_
  rintro e w2 ⟨rfl, hb2⟩
  have HB2 : Hid (Below w.heap.size w w2) := by rw [E1.out] at HB1; exact HB1.out.trans (hb2.mono HB1.out.size)
  have HK1 := Lib.hid (Kept.first w2 33 #[.int .i64 0, .int .i64 0])
  have HK2 := Lib.hid (HK1.out.set #[.int .i64 0, .int .i64 0])
  have HS2 := HB2.out.size
  clear hb2 TKH
  go_wp2_with (refine wpList_store_row rfl 33 _ _ rfl w2.heap.size #[.int .i64 0, .int .i64 0] rfl rfl 33 _ HK1.out.1 (by kernel_rfl) rfl (two_one _ _) ?_)
  generalize ((w2.alloc _).setRow _ _) = w3 at HK2 ⊢
  have HB3 : Hid (Below w.heap.size w w3) := HB2.out.trans (HK2.out.2.mono HS2)
  refine (HD.out _).mono ?_
  rintro e w4 ⟨rfl, hb4⟩
  have HB4 := Lib.hid (HB3.out.trans (hb4.mono HB3.out.size))
  have HK4 := Lib.hid (HK2.out.below hb4)
  have HL1 := Lib.hid (Kept.first w4 61 #[.bool false, .int .i64 0])
  have HL2 := Lib.hid (HL1.out.set #[.bool true, .int .i64 1])
  have HK5 := Lib.hid (HK4.out.below HL2.out.2)
  have HS4 := HB4.out.size
  have HB5 := Lib.hid (HB4.out.trans (HL2.out.2.mono HS4))
  have q0 := HL2.out.cell 0
  have q1 := HL2.out.cell 1
  have r0 := HK5.out.cell 0
  have r1 := HK5.out.cell 1
  clear hb4
  go_wp2_with (refine wpList_store_row rfl 61 _ _ rfl w4.heap.size #[.bool true, .int .i64 1] rfl rfl 61 _ HL1.out.1 (by kernel_rfl) rfl (style_one _ _) ?_)
  refine Calls.mono (FD.out _ (w4.heap.size + 1) (by simp [World.setRow])) ?_
  rintro e w6 ⟨rfl, hb6⟩
  have HB6 := Lib.hid (HB5.out.trans (hb6.mono HB5.out.size))
  clear hb6
  go_wp2_with fail
  go_ret
  exact ⟨rfl, HB6.out⟩
end Go.Proofs.YtnggbhpnpomfjaaDoor.Bl
