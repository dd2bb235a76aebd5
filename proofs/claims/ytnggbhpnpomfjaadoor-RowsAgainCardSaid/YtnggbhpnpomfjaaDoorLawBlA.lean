/- The law 'BlockLays': any text's style and lines are the document's, or refused. Conditions: the decoder's tables as they are laid; the library's limit of a search stands in its variable. -/
import Derived.Test.YtnggbhpnpomfjaaDoorBlAt
import Derived.Test.YtnggbhpnpomfjaaDoorBlMuch
import Derived.Test.YtnggbhpnpomfjaaDoorUtOpen
set_option linter.unusedVariables false
namespace Go.Proofs.YtnggbhpnpomfjaaDoor.Bl
open Go.RowKit
theorem ours_any (f : Bool) (c : Int) (w : World) : Calls Tryd.prog 52 #[.agg #[.bool f, .int .i64 c]] w fun e w' => e = .returned (.agg #[.bool f, .int .i64 c]) ∧ Below w.heap.size w w' := by
  have x0 := bl_block_cell (two_first w #[.bool f, .int .i64 c] 61 (.cells #[.bool false, .int .i64 0] 64)) 0
  have x1 := bl_block_cell (two_first w #[.bool f, .int .i64 c] 61 (.cells #[.bool false, .int .i64 0] 64)) 1
  have hh : ((w.alloc (.cells #[.bool f, .int .i64 c] 61)).alloc (.cells #[.bool false, .int .i64 0] 64)).heap[w.heap.size + 1]? = some (.cells #[.bool false, .int .i64 0] 64 (0, 0)) := by
    have := heap_alloc_new (w.alloc (.cells #[.bool f, .int .i64 c] 61)) (.cells #[.bool false, .int .i64 0] 64)
    simpa using this
  have HH := Lib.hid hh
  have hz := setRow_heap _ _ _ #[Value.bool f, Value.int .i64 c] _ _ hh
  have z0 := bl_block_cell hz 0
  have z1 := bl_block_cell hz 1
  clear hh hz
  go_enter Tryd.func52, Tryd.ntmps52
  go_wp2_with (refine wpList_store_row rfl 64 _ _ rfl (w.heap.size + 1) #[.bool f, .int .i64 c] rfl rfl 64 _ HH.out (by kernel_rfl) rfl (style_one _ _) ?_)
  refine bodyPost_ret (v := .agg #[.bool f, .int .i64 c]) (by simp [results, Tryd.results52, go_sem, z0, z1]) rfl ⟨rfl, ?_⟩
  exact (((Below.refl _ _).alloc (Nat.le_refl _) _).alloc (by simp) _).trans (bl_setRow_below _ (by omega) _)
def laySs (l : List UInt8) : List ByteArray := if layOk l = true then (layL l).map (fun x => (⟨x.toArray⟩ : ByteArray)) else []
theorem laySs_le (l : List UInt8) : (laySs l).length ≤ l.length + 1 := by
  unfold laySs
  split
  · rw [List.length_map]
    have h := splitT_len l
    have h2 := List.count_le_length (a := (10 : UInt8)) (l := l)
    unfold layL
    split
    · omega
    · rw [List.length_dropLast]; omega
  · simp
theorem lay_form {l : List UInt8} {w w' : World} {e : Ending} (h : LayPost l w e w') : Below w.heap.size w w' ∧ ∃ A c, e = .returned (.tuple #[.agg #[.bool false, .int .i64 (if layOk l = true then layC l else 0)], .slice A (laySs l).length c, .bool (layOk l)]) ∧ StrsIn w' A c (laySs l) := by
  obtain ⟨hb, ⟨h1, rfl⟩ | ⟨h1, A, c, rfl, g⟩⟩ := h
  · refine ⟨hb, none, 0, by simp [laySs, h1], ?_⟩
    have : laySs l = [] := by simp [laySs, h1]
    rw [this]
    exact ⟨fun i hi => absurd hi (Nat.not_lt_zero i), Nat.le_refl _⟩
  · refine ⟨hb, A, c, by simp [laySs, h1], ?_⟩
    have : laySs l = (layL l).map (fun x => (⟨x.toArray⟩ : ByteArray)) := by simp [laySs, h1]
    rw [this]; exact g
end Go.Proofs.YtnggbhpnpomfjaaDoor.Bl
namespace Go.Proofs.YtnggbhpnpomfjaaDoor
open Go.RowKit Bl
set_option maxRecDepth 100000 in
set_option maxHeartbeats 3200000 in
theorem law_BlockLays (w : World) (s : ByteArray) (zs : s.size ≤ 140737488351232) (hT : Tabs w) (mx : Int) (hS : w.cell? ⟨2, 0, none⟩ = some (.int .i64 mx)) : Calls Tryd.prog 17 #[.string s] w (LawPost w) := by
  have AL := Lib.hid (fun W => Bl.alive_any W)
  by_cases hm : s.size ≤ 5000
  case neg =>
    clear hT hS
    go_enter Tryd.func17, Tryd.ntmps17
    go_wp2_with fail
    refine (AL.out _).mono ?_
    rintro e w4 ⟨rfl, hb4⟩
    have HB4 := Lib.hid hb4
    clear hb4
    go_wp2_with fail
    go_ret
    exact ⟨rfl, HB4.out⟩
  case pos =>
    have T1 := Lib.hid ((Bl.lay_any s w hT mx hS (block_lt_of_cell hS) (by omega)).mono (fun e w' h => lay_form h))
    have T2 := Lib.hid (fun W => (Bl.rlay_any s W (by omega)).mono (fun e w' h => lay_form h))
    have hsl := laySs_le s.data.toList
    rw [Bl.bl_size] at hsl
    generalize laySs s.data.toList = ss at T1 T2 hsl
    generalize (if layOk s.data.toList = true then layC s.data.toList else 0) = C at T1 T2
    generalize layOk s.data.toList = ok at T1 T2
    have OU := Lib.hid (fun W => ours_any false C W)
    have q2 : (C == C) = true := beq_self_eq_true _
    have q3 : (ok == ok) = true := beq_self_eq_true _
    have HSL := Lib.hid hsl
    clear hT hS hsl zs
    go_enter Tryd.func17, Tryd.ntmps17
    go_wp2_with fail
    refine T1.out.mono ?_
    rintro e w2 ⟨hb2, A, c, rfl, g2⟩
    have HA2 := Lib.hid hb2
    have HL0 := Lib.hid (Kept.first w2 61 #[.bool false, .int .i64 0])
    have HL1 := Lib.hid (HL0.out.set #[.bool false, .int .i64 C])
    have HA3 := Lib.hid (HA2.out.trans (HL1.out.2.mono HA2.out.size))
    have G3 := Lib.hid (g2.below HL1.out.2)
    clear hb2 g2
    go_wp2_with (refine wpList_store_row rfl 61 _ _ rfl w2.heap.size #[.bool false, .int .i64 C] rfl rfl 61 _ HL0.out.1 (by kernel_rfl) rfl (style_one _ _) ?_)
    generalize ((w2.alloc _).setRow _ _) = w3 at HL1 HA3 G3 ⊢
    refine (T2.out _).mono ?_
    rintro e w4 ⟨hb4, A', c', rfl, g4⟩
    have HA4 := Lib.hid (HA3.out.trans (hb4.mono HA3.out.size))
    have HL4 := Lib.hid (HL1.out.below hb4)
    have G4 := Lib.hid (G3.out.below hb4)
    have HM0 := Lib.hid (Kept.first w4 64 #[.bool false, .int .i64 0])
    have HM1 := Lib.hid (HM0.out.set #[.bool false, .int .i64 C])
    have HA5 := Lib.hid (HA4.out.trans (HM1.out.2.mono HA4.out.size))
    have HL5 := Lib.hid (HL4.out.below HM1.out.2)
    have G5 := Lib.hid (G4.out.below HM1.out.2)
    have G5' := Lib.hid (g4.below HM1.out.2)
    clear hb4 g4
    go_wp2_with (refine wpList_store_row rfl 64 _ _ rfl w4.heap.size #[.bool false, .int .i64 C] rfl rfl 64 _ HM0.out.1 (by kernel_rfl) rfl (style_one _ _) ?_)
    generalize ((w4.alloc _).setRow _ _) = w5 at HM1 HA5 HL5 G5 G5' ⊢
    have g0 := HL5.out.cell 0
    have g1 := HL5.out.cell 1
    have g2 := HM1.out.cell 0
    have g3 := HM1.out.cell 1
    have la := bl_block_lt HL5.out.1
    have lb := bl_block_lt HM1.out.1
    have SB : ∀ V V' : World, Below V.heap.size V V' → (Below w5.heap.size w5 V ∧ V.cell? ⟨w2.heap.size, 0, none⟩ = some (.bool false) ∧ V.cell? ⟨w2.heap.size, 1, none⟩ = some (.int .i64 C) ∧ V.cell? ⟨w4.heap.size, 0, none⟩ = some (.bool false) ∧ V.cell? ⟨w4.heap.size, 1, none⟩ = some (.int .i64 C)) →
        (Below w5.heap.size w5 V' ∧ V'.cell? ⟨w2.heap.size, 0, none⟩ = some (.bool false) ∧ V'.cell? ⟨w2.heap.size, 1, none⟩ = some (.int .i64 C) ∧ V'.cell? ⟨w4.heap.size, 0, none⟩ = some (.bool false) ∧ V'.cell? ⟨w4.heap.size, 1, none⟩ = some (.int .i64 C)) := by
      rintro V V' hB ⟨h0, h1, h2, h3, h4⟩
      have hs := h0.size
      exact ⟨h0.trans (hB.mono h0.size), (hB.cell (p := ⟨w2.heap.size, 0, none⟩) (by simp; omega)).trans h1, (hB.cell (p := ⟨w2.heap.size, 1, none⟩) (by simp; omega)).trans h2, (hB.cell (p := ⟨w4.heap.size, 0, none⟩) (by simp; omega)).trans h3, (hB.cell (p := ⟨w4.heap.size, 1, none⟩) (by simp; omega)).trans h4⟩
    have SBH := Lib.hid SB
    have TX := Lib.hid (fun (V : World) (h : Below w5.heap.size w5 V ∧ V.cell? ⟨w2.heap.size, 0, none⟩ = some (.bool false) ∧ V.cell? ⟨w2.heap.size, 1, none⟩ = some (.int .i64 C) ∧ V.cell? ⟨w4.heap.size, 0, none⟩ = some (.bool false) ∧ V.cell? ⟨w4.heap.size, 1, none⟩ = some (.int .i64 C)) => Bl.texts_same A A' c c' ss V (G5.out.below h.1) (G5'.out.below h.1) (by have := HSL.out; omega))
    clear SB
    have D0 : Hid (Below w5.heap.size w5 w5.drew ∧ w5.drew.cell? ⟨w2.heap.size, 0, none⟩ = some (.bool false) ∧ w5.drew.cell? ⟨w2.heap.size, 1, none⟩ = some (.int .i64 C) ∧ w5.drew.cell? ⟨w4.heap.size, 0, none⟩ = some (.bool false) ∧ w5.drew.cell? ⟨w4.heap.size, 1, none⟩ = some (.int .i64 C)) :=
      ⟨(Below.refl _ _).drew, g0, g1, g2, g3⟩
    go_region_held3 (fun w' => Below w5.heap.size w5 w' ∧ w'.cell? ⟨w2.heap.size, 0, none⟩ = some (.bool false) ∧ w'.cell? ⟨w2.heap.size, 1, none⟩ = some (.int .i64 C) ∧ w'.cell? ⟨w4.heap.size, 0, none⟩ = some (.bool false) ∧ w'.cell? ⟨w4.heap.size, 1, none⟩ = some (.int .i64 C))
      (first
        | exact D0.out
        | exact SBH.out _ _ (by assumption) (by assumption)
        | exact SBH.out _ _ (by assumption) ⟨by assumption, by assumption, by assumption, by assumption, by assumption⟩
        | exact SBH.out _ _ (by assumption) D0.out
        | assumption
        | go_keep)
      (first
        | (go_at_call 52; (with_reducible refine (OU.out _).mono ?_); rintro e wa ⟨rfl, hba⟩)
        | (go_at_call 36; (with_reducible refine (TX.out _ (by first | assumption | exact D0.out | exact ⟨by assumption, by assumption, by assumption, by assumption, by assumption⟩)).mono ?_); rintro e wb ⟨rfl, hbb⟩)
        | (go_at_call 49; (with_reducible refine (AL.out _).mono ?_); rintro e we ⟨rfl, hbe⟩)
        | fail)
    rename_i hh
    have HF : Hid (Below w.heap.size w we) := HA5.out.trans (hh.1.mono HA5.out.size)
    clear hh hba hbb hbe
    go_wp2_with fail
    go_ret
    exact ⟨rfl, HF.out⟩
end Go.Proofs.YtnggbhpnpomfjaaDoor
