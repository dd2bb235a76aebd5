/- Walk: layer 2's probe: three rows. Conditions: the decoder's two tables as they are laid. -/
import Derived.Test.YtnggbhpnpomfjaaDoorRwSame
set_option linter.unusedVariables false
namespace Go.Proofs.YtnggbhpnpomfjaaDoor.Rw
open Go.RowKit Bl
def alT : ByteArray := ⟨#[97, 58, 13, 10, 32, 32, 98, 32, 10, 35, 32, 99]⟩
def alN : List Rw := [⟨0, ⟨#[97, 58]⟩, 1⟩, ⟨2, ⟨#[98]⟩, 2⟩, ⟨0, ⟨#[35, 32, 99]⟩, 3⟩]
theorem al_lines : linesL alT.data.toList = [[97, 58], [32, 32, 98, 32], [35, 32, 99]] := by kernel_rfl
theorem al_rows : rowsN [[97, 58], [32, 32, 98, 32], [35, 32, 99]] = alN := by kernel_rfl
theorem al_fault : ∀ x ∈ ([[97, 58], [32, 32, 98, 32], [35, 32, 99]] : List (List UInt8)), faultN x = 0 := by
  intro x hx
  have h : ([[97, 58], [32, 32, 98, 32], [35, 32, 99]] : List (List UInt8)).all (fun x => faultN x == 0) = true := by kernel_rfl
  have := List.all_eq_true.1 h x hx
  simpa using this
theorem al_note : noteL [97, 32, 35, 98] = [97] := by kernel_rfl
theorem al_read (w : World) (hT : Tabs w) : Calls Tryd.prog 34 #[.string alT] w fun e w' => Below w.heap.size w w' ∧ ∃ A c, e = .returned (.tuple #[.slice A 3 c, .agg #[.int .i64 0, .int .i64 0]]) ∧ w'.ownsRow w.heap.size 53 3 (.slice A 3 c) 3 (rowVs alN) := by
  refine (read_any alT w hT).mono ?_
  rintro e w' ⟨hb, ⟨h, _⟩ | ⟨_, k, hk, _, hf, _⟩ | ⟨_, _, row, rfl, hown⟩⟩
  · have : alT.data.toList.length = 12 := rfl
    omega
  · exfalso
    unfold lineN at hf
    rw [al_lines] at hf hk
    exact hf (al_fault _ (by rw [List.getD_eq_getElem?_getD, List.getElem?_eq_getElem hk]; exact List.getElem_mem hk))
  · rw [al_lines, al_rows] at hown
    obtain ⟨A, c, rfl, _⟩ := bl_own_len hown
    exact ⟨hb, A, c, rfl, hown⟩
set_option maxRecDepth 100000 in
set_option maxHeartbeats 1600000 in
theorem alive_any (w : World) (hT : Tabs w) : Calls Tryd.prog 33 #[] w fun e w' => e = .returned (.bool true) ∧ Below w.heap.size w w' := by
  have RD := Lib.hid (al_read w hT)
  have NT := Lib.hid (fun W => note_any ⟨#[97, 32, 35, 98]⟩ W (by show 4 ≤ _; omega))
  rw [show (⟨#[97, 32, 35, 98]⟩ : ByteArray).data.toList = [97, 32, 35, 98] from rfl, al_note] at NT
  clear hT
  go_enter Tryd.func33, Tryd.ntmps33
  go_wp2_with fail
  refine RD.out.mono ?_
  rintro e w1 ⟨hb1, A, c, rfl, hown⟩
  have HB1 := Lib.hid hb1
  have HL0 := Lib.hid (Kept.first w1 33 #[.int .i64 0, .int .i64 0])
  have HL1 := Lib.hid (HL0.out.set #[.int .i64 0, .int .i64 0])
  have HB2 := Lib.hid (HB1.out.trans (HL1.out.2.mono HB1.out.size))
  have HO2 := Lib.hid (bl_own_below hown HL1.out.2)
  have g0 := HL1.out.cell 0
  have g1 := HL1.out.cell 1
  clear hb1 hown
  go_wp2_with (refine wpList_store_row rfl 33 _ _ rfl w1.heap.size #[.int .i64 0, .int .i64 0] rfl rfl 33 _ HL0.out.1 (by kernel_rfl) rfl (two_one _ _) ?_)
  have hsz : ((w1.alloc (.cells #[.int .i64 0, .int .i64 0] 33)).setRow w1.heap.size #[.int .i64 0, .int .i64 0]).heap.size = w1.heap.size + 1 := by simp [World.setRow]
  generalize ((w1.alloc _).setRow _ _) = w2 at HL1 HB2 HO2 g0 g1 hsz ⊢
  have hnew := heap_alloc_new w2 (.cells #[.int .i64 0, .string ⟨#[97, 58]⟩, .int .i64 1, .int .i64 2, .string ⟨#[98]⟩, .int .i64 2, .int .i64 0, .string ⟨#[35, 32, 99]⟩, .int .i64 3] 53)
  have hbel : Below w2.heap.size w2 (w2.alloc (.cells #[.int .i64 0, .string ⟨#[97, 58]⟩, .int .i64 1, .int .i64 2, .string ⟨#[98]⟩, .int .i64 2, .int .i64 0, .string ⟨#[35, 32, 99]⟩, .int .i64 3] 53)) := (Below.refl _ _).alloc (Nat.le_refl _) _
  rw [hsz] at hnew
  have hok : ∀ r ∈ alN, r.ok := by intro r hr; simp [alN] at hr; rcases hr with rfl | rfl | rfl <;> (unfold Rw.ok; decide)
  have R1 := rows_own (bl_own_below HO2.out hbel) rfl hok
  have HB3 := Lib.hid (HB2.out.trans (hbel.mono HB2.out.size))
  have HL3 := Lib.hid (HL1.out.below hbel)
  generalize w2.alloc (.cells #[.int .i64 0, .string ⟨#[97, 58]⟩, .int .i64 1, .int .i64 2, .string ⟨#[98]⟩, .int .i64 2, .int .i64 0, .string ⟨#[35, 32, 99]⟩, .int .i64 3] 53) = w3 at hnew HB3 HL3 R1 ⊢
  have hown3 : w3.ownsRow (w1.heap.size + 1) 53 3 (.slice (some ⟨w1.heap.size + 1, 0, none⟩) 3 3) 3 (rowVs alN) := ⟨rfl, Or.inr ⟨w1.heap.size + 1, 3, _, rfl, Nat.le_refl _, hnew, Nat.le_refl _, by unfold maxLen; omega, rfl, rfl⟩⟩
  have R2 := rows_own hown3 rfl hok
  have SM := rsame_any A (some ⟨w1.heap.size + 1, 0, none⟩) c 3 alN alN w3 R1 R2 (by show 3 ≤ _; omega) (by show 3 ≤ _; omega)
  rw [sameN_self] at SM
  clear hnew hown3 R1 R2 hok hbel g0 g1
  refine SM.mono ?_
  rintro e w4 ⟨rfl, hb4⟩
  have HB4 := Lib.hid (HB3.out.trans (hb4.mono HB3.out.size))
  clear hb4 SM
  go_wp2_with fail
  refine (NT.out _).mono ?_
  rintro e w5 ⟨rfl, hb5⟩
  have HB5 := Lib.hid (HB4.out.trans (hb5.mono HB4.out.size))
  clear hb5
  go_wp2_with fail
  go_ret
  exact ⟨rfl, HB5.out⟩
end Go.Proofs.YtnggbhpnpomfjaaDoor.Rw
