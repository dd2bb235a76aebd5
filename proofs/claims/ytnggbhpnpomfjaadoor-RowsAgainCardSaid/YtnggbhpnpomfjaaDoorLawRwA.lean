/- The laws 'RowsNotes' and 'RowsAgain': any text without its note is the document's; it has none, and is a beginning of the text. Conditions: the decoder's tables as they are laid. -/
import Derived.Test.YtnggbhpnpomfjaaDoorRwRNote
import Derived.Test.YtnggbhpnpomfjaaDoorRwAlive
import Derived.Test.YtnggbhpnpomfjaaDoorUtOpen
set_option linter.unusedVariables false
namespace Go.Proofs.YtnggbhpnpomfjaaDoor
open Go.RowKit Bl
set_option maxRecDepth 100000 in
set_option maxHeartbeats 1600000 in
theorem law_RowsNotes (w : World) (s : ByteArray) (zs : s.size ≤ 140737488351232) (hT : Tabs w) : Calls Tryd.prog 11 #[.string s] w (LawPost w) := by
  have AL := Lib.hid (fun W (hW : Below w.heap.size w W) => Rw.alive_any W (hT.below hW))
  have N1 := Lib.hid (fun W => Rw.note_any s W (by omega))
  have N2 := Lib.hid (fun W => Rw.rnote_any s W (by omega))
  generalize (⟨(Rw.noteL s.data.toList).toArray⟩ : ByteArray) = x at N1 N2
  have q1 := Bl.strEq x
  clear hT
  go_enter Tryd.func11, Tryd.ntmps11
  go_wp2_with fail
  refine (N1.out _).mono ?_
  rintro e w1 ⟨rfl, hb1⟩
  have HB1 := Lib.hid hb1
  clear hb1
  go_wp2_with fail
  refine (N2.out _).mono ?_
  rintro e w2 ⟨rfl, hb2⟩
  have HB2 := Lib.hid (HB1.out.trans (hb2.mono HB1.out.size))
  clear hb2
  go_wp2_with fail
  refine (AL.out _ HB2.out).mono ?_
  rintro e w3 ⟨rfl, hb3⟩
  have HB3 := Lib.hid (HB2.out.trans (hb3.mono HB2.out.size))
  clear hb3
  go_wp2_with fail
  go_ret
  exact ⟨rfl, HB3.out⟩
set_option maxRecDepth 100000 in
set_option maxHeartbeats 1600000 in
theorem law_RowsAgain (w : World) (s : ByteArray) (zs : s.size ≤ 140737488351232) (hT : Tabs w) : Calls Tryd.prog 12 #[.string s] w (LawPost w) := by
  have AL := Lib.hid (fun W (hW : Below w.heap.size w W) => Rw.alive_any W (hT.below hW))
  have N1 := Lib.hid (fun W => Rw.note_any s W (by omega))
  obtain ⟨x, hx⟩ : ∃ x : ByteArray, (⟨(Rw.noteL s.data.toList).toArray⟩ : ByteArray) = x := ⟨_, rfl⟩
  rw [hx] at N1
  have hxd : x.data.toList = Rw.noteL s.data.toList := by rw [← hx]
  have hpre := Rw.note_prefix s.data.toList
  rw [← hxd] at hpre
  have hxl : x.size ≤ s.size := by rw [← Bl.bl_size, ← Bl.bl_size]; exact hpre.length_le
  have N2 := Lib.hid (fun W => Rw.note_any x W (by omega))
  rw [show (⟨(Rw.noteL x.data.toList).toArray⟩ : ByteArray) = x by rw [hxd, Rw.note_again, hx]] at N2
  have hsl := Rw.slice_to_any s x.size hxl
  have htk : s.data.toList.take x.size = x.data.toList := by
    obtain ⟨r, hr⟩ := hpre
    rw [← hr, ← Bl.bl_size, List.take_left]
  rw [htk, Bl.bl_str] at hsl
  have q1 := Bl.strEq x
  have hlI : (x.size : Int) ≤ (s.size : Int) := by omega
  have hld : decide (x.size ≤ s.size) = true := decide_eq_true hxl
  clear hT hx hxd hpre htk
  go_enter Tryd.func12, Tryd.ntmps12
  go_wp2_with fail
  refine (N1.out _).mono ?_
  rintro e w1 ⟨rfl, hb1⟩
  have HB1 := Lib.hid hb1
  clear hb1
  go_wp2_with fail
  refine (N2.out _).mono ?_
  rintro e w2 ⟨rfl, hb2⟩
  have HB2 := Lib.hid (HB1.out.trans (hb2.mono HB1.out.size))
  clear hb2
  go_wp2_with fail
  refine (AL.out _ HB2.out).mono ?_
  rintro e w3 ⟨rfl, hb3⟩
  have HB3 := Lib.hid (HB2.out.trans (hb3.mono HB2.out.size))
  clear hb3
  go_wp2_with fail
  go_ret
  exact ⟨rfl, HB3.out⟩
end Go.Proofs.YtnggbhpnpomfjaaDoor
