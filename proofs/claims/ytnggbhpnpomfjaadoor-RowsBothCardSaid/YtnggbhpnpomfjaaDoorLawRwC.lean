/- The law 'RowsBack': rows that were read and written are read as they were, if they were not too many bytes. Conditions: the decoder's tables as they are laid. -/
import Derived.Test.YtnggbhpnpomfjaaDoorLawRwB
import Derived.Test.YtnggbhpnpomfjaaDoorRwBackPure
set_option linter.unusedVariables false
namespace Go.Proofs.YtnggbhpnpomfjaaDoor.Rw
open Go.RowKit Bl
theorem read_split (l : List UInt8) (hm : l.length ≤ 65536) :
    (∃ k, k < (linesL l).length ∧ (∀ j, j < k → faultN (lineN l j) = 0) ∧ faultN (lineN l k) ≠ 0 ∧ readF l = (faultN (lineN l k), (k : Int) + 1) ∧ readR l = []) ∨
    ((∀ j, j < (linesL l).length → faultN (lineN l j) = 0) ∧ readF l = (0, 0) ∧ readR l = rowsN (linesL l)) := by
  cases hb : firstBad l with
  | some k =>
    left
    have h2 := hb
    unfold firstBad at h2
    rw [List.find?_range_eq_some] at h2
    obtain ⟨h3, h4, h5⟩ := h2
    refine ⟨k, List.mem_range.1 h4, fun j hj => ?_, by simpa using h3, ?_, ?_⟩
    · simpa using h5 j hj
    · unfold readF; rw [if_neg (by omega), hb]
    · unfold readR; rw [if_neg (by omega), hb]
  | none =>
    right
    have h2 := hb
    unfold firstBad at h2
    rw [List.find?_range_eq_none] at h2
    refine ⟨fun j hj => by simpa using h2 j hj, ?_, ?_⟩
    · unfold readF; rw [if_neg (by omega), hb]
    · unfold readR; rw [if_neg (by omega), hb]
theorem read_cases (l : List UInt8) : ((readF l).1 ≠ 0 ∧ readR l = []) ∨ (readF l = (0, 0) ∧ readR l = rowsN (linesL l) ∧ l.length ≤ 65536 ∧ ∀ j, j < (linesL l).length → faultN (lineN l j) = 0) := by
  by_cases hm : l.length ≤ 65536
  · rcases read_split l hm with ⟨k, hk, hb, hf, h1, h2⟩ | ⟨hb, h1, h2⟩
    · left; rw [h1, h2]; exact ⟨hf, rfl⟩
    · right; exact ⟨h1, h2, hm, hb⟩
  · left
    refine ⟨?_, ?_⟩
    · unfold readF; rw [if_pos (by omega)]; decide
    · unfold readR; rw [if_pos (by omega)]
theorem back_cases {l : List UInt8} (hm : l.length ≤ 65536) (hno : ∀ j, j < (linesL l).length → faultN (lineN l j) = 0) :
    (65536 < (writeL (rowsN (linesL l))).length ∧ (readF (writeL (rowsN (linesL l)))).1 ≠ 0 ∧ readR (writeL (rowsN (linesL l))) = []) ∨ (readF (writeL (rowsN (linesL l))) = (0, 0) ∧ readR (writeL (rowsN (linesL l))) = rowsN (linesL l)) := by
  obtain ⟨h1, h2⟩ := lines_back hm hno
  by_cases ht : (writeL (rowsN (linesL l))).length ≤ 65536
  · right
    rcases read_split _ ht with ⟨k, hk, hb, hf, _, _⟩ | ⟨hb, h3, h4⟩
    · exfalso
      rw [h1] at hk
      apply hf
      unfold lineN
      rw [h1, List.getD_eq_getElem?_getD, List.getElem?_eq_getElem hk]
      exact h2 _ (List.getElem_mem hk)
    · rw [h1, rowsN_asW] at h4
      exact ⟨h3, h4⟩
  · left
    rcases read_cases (writeL (rowsN (linesL l))) with ⟨h3, h4⟩ | ⟨_, _, h5, _⟩
    · exact ⟨by omega, h3, h4⟩
    · exact absurd h5 ht
end Go.Proofs.YtnggbhpnpomfjaaDoor.Rw
namespace Go.Proofs.YtnggbhpnpomfjaaDoor
open Go.RowKit Bl
set_option maxRecDepth 100000 in
set_option maxHeartbeats 3200000 in
theorem law_RowsBack (w : World) (s : ByteArray) (zs : s.size ≤ 140737488351232) (hT : Tabs w) : Calls Tryd.prog 15 #[.string s] w (LawPost w) := by
  have AL := Lib.hid (fun W (hW : Below w.heap.size w W) => Rw.alive_any W (hT.below hW))
  have RD := Lib.hid (fun x W (hW : Below w.heap.size w W) => (Rw.read_any x W (hT.below hW)).mono (fun e w' h => Rw.read_form h))
  have R1 := Lib.hid (RD.out s w (Below.refl _ _))
  rcases Rw.read_cases s.data.toList with ⟨hf, hr⟩ | ⟨hf, hr, hm, hno⟩
  · rw [hr] at R1
    generalize (Rw.readF s.data.toList) = ff at R1 hf
    obtain ⟨fx, fy⟩ := ff
    simp only at R1 hf
    have hq : (fx == 0) = false := by rw [beq_eq_false_iff_ne]; exact hf
    clear hT hf hr
    go_enter Tryd.func15, Tryd.ntmps15
    go_wp2_with fail
    refine R1.out.mono ?_
    rintro e w2 ⟨hb2, A1, c1, rfl, ho1⟩
    have HB2 := Lib.hid hb2
    have HL0 := Lib.hid (Kept.first w2 33 #[.int .i64 0, .int .i64 0])
    have HL1 := Lib.hid (HL0.out.set #[.int .i64 fx, .int .i64 fy])
    have HB3 := Lib.hid (HB2.out.trans (HL1.out.2.mono HB2.out.size))
    have g0 := HL1.out.cell 0
    have g1 := HL1.out.cell 1
    clear hb2 ho1
    go_wp2_with (refine wpList_store_row rfl 33 _ _ rfl w2.heap.size #[.int .i64 fx, .int .i64 fy] rfl rfl 33 _ HL0.out.1 (by kernel_rfl) rfl (two_one _ _) ?_)
    refine (AL.out _ HB3.out).mono ?_
    rintro e w4 ⟨rfl, hb4⟩
    have HB4 := Lib.hid (HB3.out.trans (hb4.mono HB3.out.size))
    clear hb4
    go_wp2_with fail
    go_ret
    exact ⟨rfl, HB4.out⟩
  · rw [hf, hr] at R1
    have hwl := Rw.write_len hm
    have hll : (Rw.rowsN (Rw.linesL s.data.toList)).length ≤ 1000000 := by rw [Rw.rowsN_len]; have := Rw.linesL_len s.data.toList; omega
    have hok := Rw.readR_ok s.data.toList
    rw [hr] at hok
    have hbc := Rw.back_cases hm hno
    generalize Rw.rowsN (Rw.linesL s.data.toList) = rs at R1 hwl hll hok hbc
    obtain ⟨t, ht⟩ : ∃ t : ByteArray, t = ⟨(Rw.writeL rs).toArray⟩ := ⟨_, rfl⟩
    have htd : t.data.toList = Rw.writeL rs := by rw [ht]
    have R2 := Lib.hid (fun W hW => RD.out t W hW)
    have hts : t.size = (Rw.writeL rs).length := by rw [← Bl.bl_size, htd]
    have WR := Lib.hid (fun A c W (g : Bl.RowsIn W A c rs) => Rw.write_any A c rs W g hll hwl)
    rw [← ht] at WR
    rw [← htd, Bl.bl_size] at hbc
    have HOK := Lib.hid hok
    have HLL := Lib.hid hll
    clear hT hf hr hm hno hwl hll hok ht htd hts
    rcases hbc with ⟨hbig, hg1, hg2⟩ | ⟨hg1, hg2⟩
    · rw [hg2] at R2
      generalize (Rw.readF t.data.toList) = gg at R2 hg1
      obtain ⟨gx, gy⟩ := gg
      simp only at R2 hg1
      have hq : (gx == 0) = false := by rw [beq_eq_false_iff_ne]; exact hg1
      clear hg1 hg2
      go_enter Tryd.func15, Tryd.ntmps15
      go_wp2_with fail
      refine R1.out.mono ?_
      rintro e w2 ⟨hb2, A1, c1, rfl, ho1⟩
      have HB2 := Lib.hid hb2
      have HL0 := Lib.hid (Kept.first w2 33 #[.int .i64 0, .int .i64 0])
      have HL1 := Lib.hid (HL0.out.set #[.int .i64 0, .int .i64 0])
      have HB3 := Lib.hid (HB2.out.trans (HL1.out.2.mono HB2.out.size))
      have RI3 := Lib.hid ((rows_own ho1 rfl HOK.out).below HL1.out.2)
      have g0 := HL1.out.cell 0
      have g1 := HL1.out.cell 1
      clear hb2 ho1
      go_wp2_with (refine wpList_store_row rfl 33 _ _ rfl w2.heap.size #[.int .i64 0, .int .i64 0] rfl rfl 33 _ HL0.out.1 (by kernel_rfl) rfl (two_one _ _) ?_)
      generalize ((w2.alloc _).setRow _ _) = w3 at HL1 HB3 RI3 g0 g1 ⊢
      refine (WR.out _ _ _ RI3.out).mono ?_
      rintro e w4 ⟨rfl, hb4⟩
      have HB4 := Lib.hid (HB3.out.trans (hb4.mono HB3.out.size))
      clear hb4 g0 g1
      go_wp2_with fail
      refine (R2.out _ HB4.out).mono ?_
      rintro e w5 ⟨hb5, A2, c2, rfl, ho2⟩
      have HM0 := Lib.hid (Kept.first w5 33 #[.int .i64 0, .int .i64 0])
      have HM1 := Lib.hid (HM0.out.set #[.int .i64 gx, .int .i64 gy])
      have HB6 := Lib.hid ((HB4.out.trans (hb5.mono HB4.out.size)).trans (HM1.out.2.mono (Nat.le_trans HB4.out.size hb5.size)))
      have k0 := HM1.out.cell 0
      have k1 := HM1.out.cell 1
      clear hb5 ho2
      go_wp2_with (refine wpList_store_row rfl 33 _ _ rfl w5.heap.size #[.int .i64 gx, .int .i64 gy] rfl rfl 33 _ HM0.out.1 (by kernel_rfl) rfl (two_one _ _) ?_)
      refine (AL.out _ HB6.out).mono ?_
      rintro e w7 ⟨rfl, hb7⟩
      have HB7 := Lib.hid (HB6.out.trans (hb7.mono HB6.out.size))
      clear hb7
      go_wp2_with fail
      go_ret
      exact ⟨rfl, HB7.out⟩
    · rw [hg1, hg2] at R2
      clear hg1 hg2
      go_enter Tryd.func15, Tryd.ntmps15
      go_wp2_with fail
      refine R1.out.mono ?_
      rintro e w2 ⟨hb2, A1, c1, rfl, ho1⟩
      have HB2 := Lib.hid hb2
      have HL0 := Lib.hid (Kept.first w2 33 #[.int .i64 0, .int .i64 0])
      have HL1 := Lib.hid (HL0.out.set #[.int .i64 0, .int .i64 0])
      have HB3 := Lib.hid (HB2.out.trans (HL1.out.2.mono HB2.out.size))
      have RI3 := Lib.hid ((rows_own ho1 rfl HOK.out).below HL1.out.2)
      have g0 := HL1.out.cell 0
      have g1 := HL1.out.cell 1
      clear hb2 ho1
      go_wp2_with (refine wpList_store_row rfl 33 _ _ rfl w2.heap.size #[.int .i64 0, .int .i64 0] rfl rfl 33 _ HL0.out.1 (by kernel_rfl) rfl (two_one _ _) ?_)
      generalize ((w2.alloc _).setRow _ _) = w3 at HL1 HB3 RI3 g0 g1 ⊢
      refine (WR.out _ _ _ RI3.out).mono ?_
      rintro e w4 ⟨rfl, hb4⟩
      have HB4 := Lib.hid (HB3.out.trans (hb4.mono HB3.out.size))
      have RI4 := Lib.hid (RI3.out.below hb4)
      clear hb4 g0 g1
      go_wp2_with fail
      refine (R2.out _ HB4.out).mono ?_
      rintro e w5 ⟨hb5, A2, c2, rfl, ho2⟩
      have HM0 := Lib.hid (Kept.first w5 33 #[.int .i64 0, .int .i64 0])
      have HM1 := Lib.hid (HM0.out.set #[.int .i64 0, .int .i64 0])
      have HBX := Lib.hid (hb5.trans (HM1.out.2.mono hb5.size))
      have HB6 := Lib.hid (HB4.out.trans (HBX.out.mono HB4.out.size))
      have k0 := HM1.out.cell 0
      have k1 := HM1.out.cell 1
      have SM := Rw.rsame_any A1 A2 c1 c2 rs rs _ (RI4.out.below HBX.out) ((rows_own ho2 rfl HOK.out).below HM1.out.2) (by have := HLL.out; omega) (by have := HLL.out; omega)
      rw [Rw.sameN_self] at SM
      have HSM := Lib.hid SM
      clear hb5 ho2 SM
      go_wp2_with (refine wpList_store_row rfl 33 _ _ rfl w5.heap.size #[.int .i64 0, .int .i64 0] rfl rfl 33 _ HM0.out.1 (by kernel_rfl) rfl (two_one _ _) ?_)
      refine HSM.out.mono ?_
      rintro e w7 ⟨rfl, hb7⟩
      have HB7 := Lib.hid (HB6.out.trans (hb7.mono HB6.out.size))
      clear hb7 HSM
      go_wp2_with fail
      refine (AL.out _ HB7.out).mono ?_
      rintro e w8 ⟨rfl, hb8⟩
      have HB8 := Lib.hid (HB7.out.trans (hb8.mono HB7.out.size))
      clear hb8
      go_wp2_with fail
      go_ret
      exact ⟨rfl, HB8.out⟩
end Go.Proofs.YtnggbhpnpomfjaaDoor
