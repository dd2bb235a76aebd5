import Derived.Test.YthmmhbeafbdglaaFrAny
namespace Go.Proofs.Ythmmhbeafbdglaa
open Go.RowKit
theorem own_in {w : World} {base : Nat} {v : Value} {bs : List Nat} (h : w.ownsRow base 5 1 v bs.length (cellsOf bs)) (hb : AllBytes bs) :
    ∃ A cap, v = .slice A bs.length cap ∧ BytesIn w A cap bs := by
  by_cases h0 : bs = []
  · subst h0
    rcases h.2 with ⟨hv, _⟩ | ⟨g, cap, cur, hv, _, _, _, hm, _, _⟩
    · exact ⟨none, 0, hv, hb, Or.inl rfl, Nat.le_refl _, Nat.zero_le _, fun _ => rfl⟩
    · exact ⟨_, cap, hv, hb, Or.inl rfl, Nat.zero_le _, Nat.zero_le _, fun h => by cases h⟩
  · obtain ⟨g, cap, cur, hv, _, hblk, hc, hm, hcur⟩ := own_bytes h h0
    unfold maxLen at hm
    exact ⟨_, cap, hv, hb, Or.inr ⟨g, 0, rfl, block_lt hblk, fun i hi => by rw [Nat.zero_add, block_cell hblk]; exact hcur i hi⟩, hc, by omega, fun h => by cases h⟩

set_option maxHeartbeats 1000000 in
theorem falive_any (w : World) :
    Calls Try.prog 25 #[] w fun e w' => e = .returned (.bool true) ∧ Below w.heap.size w w' := by
  have kc := fun (w : World) (C : Array Value) (n c : Nat) => Lib.run_convert_bytes_const (P := Try.prog) w 28 5 C n c Try.underlying28 Try.underlying5
  go_enter Try.func25, Try.ntmps25
  go_wp2_with fail
  have hb0 : Below w.heap.size w (w.alloc (.cells #[.int .u8 97, .int .u8 98] 5 (2, 3))) := (Below.refl _ _).alloc (Nat.le_refl _) _
  have g0 : BytesIn (w.alloc (.cells #[.int .u8 97, .int .u8 98] 5 (2, 3))) (some ⟨w.heap.size, 0, none⟩) 2 [97, 98] :=
    ⟨by unfold AllBytes; decide, BytesAt.of_block (heap_alloc_new _ _) rfl, Nat.le_refl _, by decide, fun h => by cases h⟩
  have GP := Lib.hid (fput_ok 7 _ _ _ _ (by omega) (by omega) g0 (by decide))
  have HB0 := Lib.hid hb0
  clear kc hb0 g0
  refine GP.out.mono ?_
  rintro e w1 ⟨v, rfl, hown, hb1⟩
  have HB1 := Lib.hid (HB0.out.trans (hb1.mono HB0.out.size))
  obtain ⟨A, cap, rfl, g1⟩ := own_in hown (frameB_bytes 7 _ (by unfold AllBytes; decide))
  clear hown hb1 GP HB0
  have hF : (frameB 7 [97, 98]).length = 22 := rfl
  have HX := Lib.hid g1
  rw [hF]
  have GN := Lib.hid (next_any A cap _ w1 g1 (by decide))
  rw [hF] at GN
  clear hF g1
  go_wp2_with fail
  refine GN.out.mono ?_
  rintro e w2 ⟨hb2, hp⟩
  have hne : nextE (frameB 7 [97, 98]) = 0 := by have := frame_next 7 [97, 98] [] (by omega) (by omega) (by decide); rwa [List.append_nil] at this
  rcases hp with ⟨h, _⟩ | ⟨_, v, he, hown2⟩
  · exact absurd hne h
  obtain ⟨p1, p2, p3, _, _⟩ := frame_parts 7 [97, 98] [] (by omega) (by decide)
  rw [List.append_nil] at p1 p2 p3
  rw [p1, p2] at he
  rw [p3] at hown2
  subst he
  obtain ⟨A2, cap2, rfl, g2⟩ := own_in hown2 (by unfold AllBytes; decide)
  have HB2 := Lib.hid (HB1.out.trans (hb2.mono HB1.out.size))
  have GA := Lib.hid (HX.out.below hb2)
  have GB := Lib.hid g2
  clear hne hown2 p1 p2 p3 hb2 g2 GN HX
  have hx1 : ∀ o : Obj, (convert 28 9 (.slice A2 2 cap2)).run Try.prog (w2.alloc o) = .ok (.string ⟨#[97, 98]⟩) (w2.alloc o) := by
    intro o
    have h := conv_bytes A2 cap2 [97, 98] (w2.alloc o) (GB.out.below ((Below.refl _ _).alloc (Nat.le_refl _) o)).at_
    rw [show strOf [97, 98] = ⟨#[97, 98]⟩ from by decide] at h
    exact h
  have hs4 : ∀ W, (Instr.sliceAt 28 (.slice A 22 cap) none (some (.int .i64 4)) none).run Try.prog W = .ok (.slice (subA A 0 cap) 4 cap) W := fun W => slice_to A 22 cap 4 (by have := GA.out.cap; rw [frameB_length] at this; simp at this; omega) W
  have hx2 : ∀ o : Obj, (convert 28 9 (.slice (subA A 0 cap) 4 cap)).run Try.prog (w2.alloc o) = .ok (.string ⟨#[89, 82, 69, 67]⟩) (w2.alloc o) := by
    intro o
    have h := conv_bytes (subA A 0 cap) cap ((frameB 7 [97, 98]).take 4) (w2.alloc o) ((GA.out.take 4).below ((Below.refl _ _).alloc (Nat.le_refl _) o)).at_
    have e : (frameB 7 [97, 98]).take 4 = [89, 82, 69, 67] := rfl
    rw [e, show strOf [89, 82, 69, 67] = ⟨#[89, 82, 69, 67]⟩ from by decide] at h
    exact h
  have HE : Hid (∀ o : Obj, Below w.heap.size w (w2.alloc o)) := fun o => HB2.out.alloc HB2.out.size o
  go_wp2_with fail
  go_ret
  exact ⟨rfl, HE.out _⟩
end Go.Proofs.Ythmmhbeafbdglaa
