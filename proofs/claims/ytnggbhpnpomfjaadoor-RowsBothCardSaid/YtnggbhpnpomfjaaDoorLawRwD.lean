/- The law 'RowsBoth': two texts of whole lines, one behind the other, have the rows of both. Conditions: the decoder's tables as they are laid. -/
import Derived.Test.YtnggbhpnpomfjaaDoorLawRwC
set_option linter.unusedVariables false
namespace Go.Proofs.YtnggbhpnpomfjaaDoor.Rw
open Go.RowKit Bl
theorem lineN_left {s t : List UInt8} {k : Nat} (hk : k < (linesL (s ++ [10])).length) : lineN (s ++ 10 :: t) k = lineN (s ++ [10]) k := by
  unfold lineN
  rw [lines_both, List.getD_eq_getElem?_getD, List.getElem?_append_left hk, ← List.getD_eq_getElem?_getD]
theorem lineN_right {s t : List UInt8} (k : Nat) : lineN (s ++ 10 :: t) ((linesL (s ++ [10])).length + k) = lineN t k := by
  unfold lineN
  rw [lines_both, List.getD_eq_getElem?_getD, List.getElem?_append_right (by omega), Nat.add_sub_cancel_left, ← List.getD_eq_getElem?_getD]
theorem both_cases (s t : List UInt8) (hm : s.length + t.length ≤ 60000) :
    ((readF (s ++ [10])).1 ≠ 0 ∧ readF (s ++ 10 :: t) = readF (s ++ [10])) ∨
    (readF (s ++ [10]) = (0, 0) ∧ readR (s ++ [10]) = rowsN (linesL (s ++ [10])) ∧ (readF t).1 ≠ 0 ∧ readF (s ++ 10 :: t) = ((readF t).1, (readF t).2 + ((linesL (s ++ [10])).length : Nat))) ∨
    (readF (s ++ [10]) = (0, 0) ∧ readF t = (0, 0) ∧ readF (s ++ 10 :: t) = (0, 0) ∧ readR (s ++ [10]) = rowsN (linesL (s ++ [10])) ∧ readR t = rowsN (linesL t) ∧ readR (s ++ 10 :: t) = rowsN (linesL (s ++ [10]) ++ linesL t)) := by
  have hlen : (linesL (s ++ 10 :: t)).length = (linesL (s ++ [10])).length + (linesL t).length := by rw [lines_both, List.length_append]
  have u1 : (s ++ [10]).length ≤ 65536 := by simp; omega
  have u3 : (s ++ 10 :: t).length ≤ 65536 := by simp; omega
  have bad3 : ∀ k, k < (linesL (s ++ 10 :: t)).length → faultN (lineN (s ++ 10 :: t) k) ≠ 0 → (∀ j, j < k → faultN (lineN (s ++ 10 :: t) j) = 0) → readF (s ++ 10 :: t) = (faultN (lineN (s ++ 10 :: t) k), (k : Int) + 1) := fun k hk hf hb => by
    unfold readF; rw [if_neg (by omega), bad_some hk hf hb]
  rcases read_split _ u1 with ⟨k, hk, hb, hf, h1, h2⟩ | ⟨hb, h1, h2⟩
  · left
    refine ⟨by rw [h1]; exact hf, ?_⟩
    rw [h1, bad3 k (by omega) (by rw [lineN_left hk]; exact hf) (fun j hj => by rw [lineN_left (by omega)]; exact hb j hj), lineN_left hk]
  · right
    rcases read_split t (by omega) with ⟨k, hk, hb2, hf, h3, h4⟩ | ⟨hb2, h3, h4⟩
    · left
      refine ⟨h1, h2, by rw [h3]; exact hf, ?_⟩
      rw [bad3 ((linesL (s ++ [10])).length + k) (by omega) (by rw [lineN_right]; exact hf) (fun j hj => ?_), lineN_right, h3]
      · simp only [Prod.mk.injEq, true_and]; omega
      · rcases Nat.lt_or_ge j (linesL (s ++ [10])).length with h | h
        · rw [lineN_left h]; exact hb j h
        · obtain ⟨i, rfl⟩ : ∃ i, j = (linesL (s ++ [10])).length + i := ⟨j - (linesL (s ++ [10])).length, by omega⟩
          rw [lineN_right]; exact hb2 i (by omega)
    · right
      have hno : ∀ j, j < (linesL (s ++ 10 :: t)).length → faultN (lineN (s ++ 10 :: t) j) = 0 := fun j hj => by
        rcases Nat.lt_or_ge j (linesL (s ++ [10])).length with h | h
        · rw [lineN_left h]; exact hb j h
        · obtain ⟨i, rfl⟩ : ∃ i, j = (linesL (s ++ [10])).length + i := ⟨j - (linesL (s ++ [10])).length, by omega⟩
          rw [lineN_right]; exact hb2 i (by omega)
      have hn := bad_none hno
      refine ⟨h1, h3, ?_, h2, h4, ?_⟩
      · unfold readF; rw [if_neg (by omega), hn]
      · unfold readR; rw [if_neg (by omega), hn, lines_both]
theorem rowsN_left (L M : List (List UInt8)) : (rowsN (L ++ M)).take L.length = rowsN L := by
  unfold rowsN
  rw [List.mapIdx_append, List.take_append_of_le_length (by simp)]
  exact List.take_of_length_le (by simp)
theorem rowsN_right (L M : List (List UInt8)) (i : Nat) (hi : i < M.length) : (rowsN (L ++ M)).getD (L.length + i) rw0 = ⟨((rowsN M).getD i rw0).col, ((rowsN M).getD i rw0).txt, ((rowsN M).getD i rw0).ln + (L.length : Nat)⟩ := by
  unfold rowsN
  rw [List.getD_eq_getElem?_getD, List.getD_eq_getElem?_getD, List.getElem?_mapIdx, List.getElem?_mapIdx, List.getElem?_append_right (by omega), Nat.add_sub_cancel_left, List.getElem?_eq_getElem hi]
  simp only [Option.map_some, Option.getD_some]
  unfold rowN
  simp only [Rw.mk.injEq, true_and]
  omega
theorem rowsN_ln (M : List (List UInt8)) (i : Nat) (hi : i < M.length) : ((rowsN M).getD i rw0).ln = (i : Int) + 1 := by
  unfold rowsN
  rw [List.getD_eq_getElem?_getD, List.getElem?_mapIdx, List.getElem?_eq_getElem hi]
  rfl
theorem rows_take {w : World} {A : Option Addr} {c : Nat} {rs : List Rw} (g : Bl.RowsIn w A c rs) (m : Nat) : Bl.RowsIn w A c (rs.take m) := by
  have e : ∀ i, i < m → i < rs.length → (rs.take m).getD i rw0 = rs.getD i rw0 := fun i h1 h2 => by simp [List.getD_eq_getElem?_getD, h1]
  refine ⟨fun i hi => ?_, fun i hi => ?_, ?_⟩
  · rw [List.length_take] at hi
    rw [e i (by omega) (by omega)]
    exact g.at_ i (by omega)
  · rw [List.length_take] at hi
    rw [e i (by omega) (by omega)]
    exact g.rng i (by omega)
  · rw [List.length_take]; have := g.cap; omega
end Go.Proofs.YtnggbhpnpomfjaaDoor.Rw
namespace Go.Proofs.YtnggbhpnpomfjaaDoor
open Go.RowKit Bl
set_option maxRecDepth 100000 in
set_option maxHeartbeats 6400000 in
theorem law_RowsBoth (w : World) (s : ByteArray) (zs : s.size ≤ 140737488351232) (t : ByteArray) (zt : t.size ≤ 140737488351232) (hT : Tabs w) : Calls Tryd.prog 13 #[.string s, .string t] w (LawPost w) := by
  have AL := Lib.hid (fun W (hW : Below w.heap.size w W) => Rw.alive_any W (hT.below hW))
  have hsw : IntKind.i64.wrap ((s.size : Int) + (t.size : Int)) = (s.size : Int) + (t.size : Int) := by rw [IntKind.wrap_i64]; omega
  by_cases hm : s.size + t.size ≤ 60000
  case neg =>
    have hmi : (60000 : Int) < (s.size : Int) + (t.size : Int) := by omega
    clear hT
    go_enter Tryd.func13, Tryd.ntmps13
    go_wp2_with fail
    refine (AL.out _ (Below.refl _ _)).mono ?_
    rintro e w4 ⟨rfl, hb4⟩
    have HB4 := Lib.hid hb4
    clear hb4
    go_wp2_with fail
    go_ret
    exact ⟨rfl, HB4.out⟩
  case pos =>
    have hmi : ¬ ((60000 : Int) < (s.size : Int) + (t.size : Int)) := by omega
    have hmd : decide ((60000 : Int) < (s.size : Int) + (t.size : Int)) = false := decide_eq_false hmi
    have ha1 : ¬ (9223372036854775807 < s.size + (⟨#[10]⟩ : ByteArray).size) := by show ¬ (9223372036854775807 < s.size + 1); omega
    have hs1z : (s ++ (⟨#[10]⟩ : ByteArray)).size = s.size + 1 := by
      rw [← Bl.bl_size, cat_data, List.length_append, Bl.bl_size]; rfl
    have ha2 : ¬ (9223372036854775807 < (s ++ (⟨#[10]⟩ : ByteArray)).size + t.size) := by rw [hs1z]; omega
    have hd1 : (s ++ (⟨#[10]⟩ : ByteArray)).data.toList = s.data.toList ++ [10] := by rw [cat_data]
    have hd3 : ((s ++ (⟨#[10]⟩ : ByteArray)) ++ t).data.toList = s.data.toList ++ 10 :: t.data.toList := by rw [cat_data, cat_data]; simp
    have RD := Lib.hid (fun x W (hW : Below w.heap.size w W) => (Rw.read_any x W (hT.below hW)).mono (fun e w' h => Rw.read_form h))
    have R1 := Lib.hid (RD.out (s ++ (⟨#[10]⟩ : ByteArray)) w (Below.refl _ _))
    have R2 := Lib.hid (fun W hW => RD.out t W hW)
    have R3 := Lib.hid (fun W hW => RD.out ((s ++ (⟨#[10]⟩ : ByteArray)) ++ t) W hW)
    rw [hd1] at R1
    rw [hd3] at R3
    have hcs := Rw.both_cases s.data.toList t.data.toList (by rw [Bl.bl_size, Bl.bl_size]; exact hm)
    have hok1 := Rw.readR_ok (s.data.toList ++ [10])
    have hok2 := Rw.readR_ok t.data.toList
    have hok3 := Rw.readR_ok (s.data.toList ++ 10 :: t.data.toList)
    have hl1 := Rw.linesL_len (s.data.toList ++ [10])
    have hl2 := Rw.linesL_len t.data.toList
    rw [List.length_append, Bl.bl_size] at hl1
    rw [Bl.bl_size] at hl2
    simp only [List.length_cons, List.length_nil] at hl1
    clear hT hd1 hd3 hs1z hmi
    rcases hcs with ⟨hf, hh⟩ | ⟨hf, hr1, hg, hh⟩ | ⟨hf, hg, hh, hr1, hr2, hr3⟩
    · rw [hh] at R3
      generalize Rw.readR (s.data.toList ++ [10]) = rs1 at R1 hok1
      generalize Rw.readR t.data.toList = rs2 at R2 hok2
      generalize Rw.readR (s.data.toList ++ 10 :: t.data.toList) = rs3 at R3 hok3
      generalize Rw.readF t.data.toList = gg at R2
      generalize Rw.readF (s.data.toList ++ [10]) = ff at R1 R3 hf hh
      obtain ⟨fx, fy⟩ := ff
      obtain ⟨gx, gy⟩ := gg
      simp only at R1 R2 R3 hf
      have hq : (fx == 0) = false := by rw [beq_eq_false_iff_ne]; exact hf
      have q1 : (fx == fx) = true := beq_self_eq_true _
      have q2 : (fy == fy) = true := beq_self_eq_true _
      have HOK1 := Lib.hid hok1
      have HOK2 := Lib.hid hok2
      have HOK3 := Lib.hid hok3
      clear hf hh hok1 hok2 hok3 hl1 hl2
      go_enter Tryd.func13, Tryd.ntmps13
      go_wp2_with fail
      refine R1.out.mono ?_
      rintro e w2 ⟨hb, A1, c1, rfl, ho⟩
      have HL0 := Lib.hid (Kept.first w2 33 #[.int .i64 0, .int .i64 0])
      have HL1 := Lib.hid (HL0.out.set #[.int .i64 fx, .int .i64 fy])
      have HXw3 := Lib.hid (hb.trans (HL1.out.2.mono hb.size))
      have HBw3 := Lib.hid HXw3.out
      have RI1 := Lib.hid ((rows_own ho rfl HOK1.out).below HL1.out.2)
      clear hb ho
      go_wp2_with (refine wpList_store_row rfl 33 _ _ rfl w2.heap.size #[.int .i64 fx, .int .i64 fy] rfl rfl 33 _ HL0.out.1 (by kernel_rfl) rfl (two_one _ _) ?_)
      generalize ((w2.alloc _).setRow _ _) = w3 at HL1 HXw3 HBw3  RI1 ⊢
      refine (R2.out _ HBw3.out).mono ?_
      rintro e w4 ⟨hb, A2, c2, rfl, ho⟩
      have HM0 := Lib.hid (Kept.first w4 33 #[.int .i64 0, .int .i64 0])
      have HM1 := Lib.hid (HM0.out.set #[.int .i64 gx, .int .i64 gy])
      have HXw5 := Lib.hid (hb.trans (HM1.out.2.mono hb.size))
      have HBw5 := Lib.hid (HBw3.out.trans (HXw5.out.mono HBw3.out.size))
      have RI2 := Lib.hid ((rows_own ho rfl HOK2.out).below HM1.out.2)
      have HL2 := Lib.hid (HL1.out.below HXw5.out)
      have RI1 := Lib.hid (RI1.out.below HXw5.out)
      clear hb ho
      go_wp2_with (refine wpList_store_row rfl 33 _ _ rfl w4.heap.size #[.int .i64 gx, .int .i64 gy] rfl rfl 33 _ HM0.out.1 (by kernel_rfl) rfl (two_one _ _) ?_)
      generalize ((w4.alloc _).setRow _ _) = w5 at HM1 HXw5 HBw5 HL2 RI2 RI1 ⊢
      refine (R3.out _ HBw5.out).mono ?_
      rintro e w6 ⟨hb, A3, c3, rfl, ho⟩
      have HN0 := Lib.hid (Kept.first w6 33 #[.int .i64 0, .int .i64 0])
      have HN1 := Lib.hid (HN0.out.set #[.int .i64 fx, .int .i64 fy])
      have HXw7 := Lib.hid (hb.trans (HN1.out.2.mono hb.size))
      have HBw7 := Lib.hid (HBw5.out.trans (HXw7.out.mono HBw5.out.size))
      have RI3 := Lib.hid ((rows_own ho rfl HOK3.out).below HN1.out.2)
      have HL3 := Lib.hid (HL2.out.below HXw7.out)
      have RI1 := Lib.hid (RI1.out.below HXw7.out)
      have HM2 := Lib.hid (HM1.out.below HXw7.out)
      have RI2 := Lib.hid (RI2.out.below HXw7.out)
      clear hb ho
      have f0 := HL3.out.cell 0
      have f1 := HL3.out.cell 1
      have g0 := HM2.out.cell 0
      have g1 := HM2.out.cell 1
      have h0 := HN1.out.cell 0
      have h1 := HN1.out.cell 1
      go_wp2_with (refine wpList_store_row rfl 33 _ _ rfl w6.heap.size #[.int .i64 fx, .int .i64 fy] rfl rfl 33 _ HN0.out.1 (by kernel_rfl) rfl (two_one _ _) ?_)
      refine (AL.out _ HBw7.out).mono ?_
      rintro e w8 ⟨rfl, hb8⟩
      have HB8 := Lib.hid (HBw7.out.trans (hb8.mono HBw7.out.size))
      clear hb8
      go_wp2_with fail
      go_ret
      exact ⟨rfl, HB8.out⟩
    · rw [hh] at R3
      rw [hf, hr1] at R1
      rw [hr1] at hok1
      have hn : (Rw.rowsN (Rw.linesL (s.data.toList ++ [10]))).length = (Rw.linesL (s.data.toList ++ [10])).length := Rw.rowsN_len _
      rw [← hn] at R3 hl1
      generalize Rw.rowsN (Rw.linesL (s.data.toList ++ [10])) = rs1 at R1 R3 hok1 hl1
      have hgy : -10 ≤ (Rw.readF t.data.toList).2 ∧ (Rw.readF t.data.toList).2 ≤ 1000000 := by
        rcases Rw.read_split t.data.toList (by rw [Bl.bl_size]; omega) with ⟨k, hk, _, _, h1, _⟩ | ⟨_, h1, _⟩
        · rw [h1]; simp only; omega
        · rw [h1]; simp only; omega
      generalize Rw.readR t.data.toList = rs2 at R2 hok2
      generalize Rw.readR (s.data.toList ++ 10 :: t.data.toList) = rs3 at R3 hok3
      generalize Rw.readF t.data.toList = gg at R2 R3 hg hgy
      obtain ⟨gx, gy⟩ := gg
      simp only at R2 R3 hg hgy
      have hq : (gx == 0) = false := by rw [beq_eq_false_iff_ne]; exact hg
      have q1 : (gx == gx) = true := beq_self_eq_true _
      have q2 : (gy + (rs1.length : Nat) == gy + (rs1.length : Nat)) = true := beq_self_eq_true _
      have hgw : IntKind.i64.wrap (gy + (rs1.length : Int)) = gy + (rs1.length : Int) := by rw [IntKind.wrap_i64]; omega
      have HOK1 := Lib.hid hok1
      have HOK2 := Lib.hid hok2
      have HOK3 := Lib.hid hok3
      clear hf hh hok1 hok2 hok3 hn hr1 hg hl2
      go_enter Tryd.func13, Tryd.ntmps13
      go_wp2_with fail
      refine R1.out.mono ?_
      rintro e w2 ⟨hb, A1, c1, rfl, ho⟩
      have HL0 := Lib.hid (Kept.first w2 33 #[.int .i64 0, .int .i64 0])
      have HL1 := Lib.hid (HL0.out.set #[.int .i64 0, .int .i64 0])
      have HXw3 := Lib.hid (hb.trans (HL1.out.2.mono hb.size))
      have HBw3 := Lib.hid HXw3.out
      have RI1 := Lib.hid ((rows_own ho rfl HOK1.out).below HL1.out.2)
      clear hb ho
      go_wp2_with (refine wpList_store_row rfl 33 _ _ rfl w2.heap.size #[.int .i64 0, .int .i64 0] rfl rfl 33 _ HL0.out.1 (by kernel_rfl) rfl (two_one _ _) ?_)
      generalize ((w2.alloc _).setRow _ _) = w3 at HL1 HXw3 HBw3  RI1 ⊢
      refine (R2.out _ HBw3.out).mono ?_
      rintro e w4 ⟨hb, A2, c2, rfl, ho⟩
      have HM0 := Lib.hid (Kept.first w4 33 #[.int .i64 0, .int .i64 0])
      have HM1 := Lib.hid (HM0.out.set #[.int .i64 gx, .int .i64 gy])
      have HXw5 := Lib.hid (hb.trans (HM1.out.2.mono hb.size))
      have HBw5 := Lib.hid (HBw3.out.trans (HXw5.out.mono HBw3.out.size))
      have RI2 := Lib.hid ((rows_own ho rfl HOK2.out).below HM1.out.2)
      have HL2 := Lib.hid (HL1.out.below HXw5.out)
      have RI1 := Lib.hid (RI1.out.below HXw5.out)
      clear hb ho
      go_wp2_with (refine wpList_store_row rfl 33 _ _ rfl w4.heap.size #[.int .i64 gx, .int .i64 gy] rfl rfl 33 _ HM0.out.1 (by kernel_rfl) rfl (two_one _ _) ?_)
      generalize ((w4.alloc _).setRow _ _) = w5 at HM1 HXw5 HBw5 HL2 RI2 RI1 ⊢
      refine (R3.out _ HBw5.out).mono ?_
      rintro e w6 ⟨hb, A3, c3, rfl, ho⟩
      have HN0 := Lib.hid (Kept.first w6 33 #[.int .i64 0, .int .i64 0])
      have HN1 := Lib.hid (HN0.out.set #[.int .i64 gx, .int .i64 (gy + (rs1.length : Nat))])
      have HXw7 := Lib.hid (hb.trans (HN1.out.2.mono hb.size))
      have HBw7 := Lib.hid (HBw5.out.trans (HXw7.out.mono HBw5.out.size))
      have RI3 := Lib.hid ((rows_own ho rfl HOK3.out).below HN1.out.2)
      have HL3 := Lib.hid (HL2.out.below HXw7.out)
      have RI1 := Lib.hid (RI1.out.below HXw7.out)
      have HM2 := Lib.hid (HM1.out.below HXw7.out)
      have RI2 := Lib.hid (RI2.out.below HXw7.out)
      clear hb ho
      have f0 := HL3.out.cell 0
      have f1 := HL3.out.cell 1
      have g0 := HM2.out.cell 0
      have g1 := HM2.out.cell 1
      have h0 := HN1.out.cell 0
      have h1 := HN1.out.cell 1
      go_wp2_with (refine wpList_store_row rfl 33 _ _ rfl w6.heap.size #[.int .i64 gx, .int .i64 (gy + (rs1.length : Nat))] rfl rfl 33 _ HN0.out.1 (by kernel_rfl) rfl (two_one _ _) ?_)
      refine (AL.out _ HBw7.out).mono ?_
      rintro e w8 ⟨rfl, hb8⟩
      have HB8 := Lib.hid (HBw7.out.trans (hb8.mono HBw7.out.size))
      clear hb8
      go_wp2_with fail
      go_ret
      exact ⟨rfl, HB8.out⟩
    · rw [hf, hr1] at R1
      rw [hg, hr2] at R2
      rw [hh, hr3] at R3
      rw [hr1] at hok1
      rw [hr2] at hok2
      rw [hr3] at hok3
      generalize Rw.linesL (s.data.toList ++ [10]) = L at R1 R3 hok1 hok3 hl1
      generalize Rw.linesL t.data.toList = M at R2 R3 hok2 hok3 hl2
      have hn1 : (Rw.rowsN L).length = L.length := Rw.rowsN_len _
      have hn2 : (Rw.rowsN M).length = M.length := Rw.rowsN_len _
      have hn3 : (Rw.rowsN (L ++ M)).length = L.length + M.length := by rw [Rw.rowsN_len, List.length_append]
      have HLF3 := Lib.hid (Rw.rowsN_left L M)
      have HR3 := Lib.hid (Rw.rowsN_right L M)
      rw [hn1] at R1
      rw [hn2] at R2
      rw [hn3] at R3
      have HOK1 := Lib.hid hok1
      have HOK2 := Lib.hid hok2
      have HOK3 := Lib.hid hok3
      have HN1L := Lib.hid hn1
      have HN2L := Lib.hid hn2
      have HN3L := Lib.hid hn3
      clear hf hg hh hr1 hr2 hr3 hok1 hok2 hok3 hn1 hn2 hn3
      go_enter Tryd.func13, Tryd.ntmps13
      go_wp2_with fail
      refine R1.out.mono ?_
      rintro e w2 ⟨hb, A1, c1, rfl, ho⟩
      have HL0 := Lib.hid (Kept.first w2 33 #[.int .i64 0, .int .i64 0])
      have HL1 := Lib.hid (HL0.out.set #[.int .i64 0, .int .i64 0])
      have HXw3 := Lib.hid (hb.trans (HL1.out.2.mono hb.size))
      have HBw3 := Lib.hid HXw3.out
      have RI1 := Lib.hid ((rows_own ho HN1L.out HOK1.out).below HL1.out.2)
      clear hb ho
      go_wp2_with (refine wpList_store_row rfl 33 _ _ rfl w2.heap.size #[.int .i64 0, .int .i64 0] rfl rfl 33 _ HL0.out.1 (by kernel_rfl) rfl (two_one _ _) ?_)
      generalize ((w2.alloc _).setRow _ _) = w3 at HL1 HXw3 HBw3  RI1 ⊢
      refine (R2.out _ HBw3.out).mono ?_
      rintro e w4 ⟨hb, A2, c2, rfl, ho⟩
      have HM0 := Lib.hid (Kept.first w4 33 #[.int .i64 0, .int .i64 0])
      have HM1 := Lib.hid (HM0.out.set #[.int .i64 0, .int .i64 0])
      have HXw5 := Lib.hid (hb.trans (HM1.out.2.mono hb.size))
      have HBw5 := Lib.hid (HBw3.out.trans (HXw5.out.mono HBw3.out.size))
      have RI2 := Lib.hid ((rows_own ho HN2L.out HOK2.out).below HM1.out.2)
      have HL2 := Lib.hid (HL1.out.below HXw5.out)
      have RI1 := Lib.hid (RI1.out.below HXw5.out)
      clear hb ho
      go_wp2_with (refine wpList_store_row rfl 33 _ _ rfl w4.heap.size #[.int .i64 0, .int .i64 0] rfl rfl 33 _ HM0.out.1 (by kernel_rfl) rfl (two_one _ _) ?_)
      generalize ((w4.alloc _).setRow _ _) = w5 at HM1 HXw5 HBw5 HL2 RI2 RI1 ⊢
      refine (R3.out _ HBw5.out).mono ?_
      rintro e w6 ⟨hb, A3, c3, rfl, ho⟩
      have HN0 := Lib.hid (Kept.first w6 33 #[.int .i64 0, .int .i64 0])
      have HN1 := Lib.hid (HN0.out.set #[.int .i64 0, .int .i64 0])
      have HXw7 := Lib.hid (hb.trans (HN1.out.2.mono hb.size))
      have HBw7 := Lib.hid (HBw5.out.trans (HXw7.out.mono HBw5.out.size))
      have RI3 := Lib.hid ((rows_own ho HN3L.out HOK3.out).below HN1.out.2)
      have HL3 := Lib.hid (HL2.out.below HXw7.out)
      have RI1 := Lib.hid (RI1.out.below HXw7.out)
      have HM2 := Lib.hid (HM1.out.below HXw7.out)
      have RI2 := Lib.hid (RI2.out.below HXw7.out)
      clear hb ho
      have f0 := HL3.out.cell 0
      have f1 := HL3.out.cell 1
      have g0 := HM2.out.cell 0
      have g1 := HM2.out.cell 1
      have h0 := HN1.out.cell 0
      have h1 := HN1.out.cell 1
      have hcap3 : L.length ≤ c3 := by have := RI3.out.cap; rw [HN3L.out] at this; omega
      have SM0 := Rw.same_any A3 A1 c3 c1 (Rw.rowsN L) (Rw.rowsN L) _ (by have := Rw.rows_take RI3.out L.length; rw [HLF3.out] at this; exact this) RI1.out (by rw [HN1L.out]; omega) (by rw [HN1L.out]; omega)
      rw [Rw.sameN_self, HN1L.out] at SM0
      have HSM := Lib.hid SM0
      clear SM0
      go_wp2_with (refine wpList_store_row rfl 33 _ _ rfl w6.heap.size #[.int .i64 0, .int .i64 0] rfl rfl 33 _ HN0.out.1 (by kernel_rfl) rfl (two_one _ _) ?_)
      generalize ((w6.alloc _).setRow _ _) = w7 at HN1 HBw7 HL3 HM2 RI1 RI2 RI3 HSM f0 f1 g0 g1 h0 h1 ⊢
      refine HSM.out.mono ?_
      rintro e w8 ⟨rfl, hb8⟩
      have HB8 := Lib.hid (HBw7.out.trans (hb8.mono HBw7.out.size))
      have RJ2 := Lib.hid (RI2.out.below hb8)
      have RJ3 := Lib.hid (RI3.out.below hb8)
      clear hb8 HSM
      go_wp2_with fail
      go_loopw [89] (fun v wr => ∃ k : Nat, k ≤ M.length ∧ v = .int .i64 (k : Nat) ∧ Hid (Below w8.heap.size w8 wr)) (fun v _ => M.length - (intOf v).toNat)
      case atStart => exact ⟨0, Nat.zero_le _, rfl, Below.refl _ _⟩
      case round =>
        obtain ⟨k, hk, rfl, hb⟩ := hrel
        by_cases hlt : k < M.length
        · have hlt' : (k : Int) < (M.length : Int) := by omega
          have hln := Rw.rowsN_ln M k hlt
          obtain ⟨b2, off2, hA2, hbl2, x0, x1, x2⟩ := (RJ2.out.below hb.out).at_ k (by rw [HN2L.out]; exact hlt)
          obtain ⟨b3, off3, hA3, hbl3, y0, y1, y2⟩ := (RJ3.out.below hb.out).at_ (L.length + k) (by rw [HN3L.out]; omega)
          rw [HR3.out k hlt] at y0 y1 y2
          generalize (Rw.rowsN M).getD k rw0 = x at hln x0 x1 x2 y0 y1 y2
          obtain ⟨xc, xt, xl⟩ := x
          simp only at hln x0 x1 x2 y0 y1 y2
          have hsz0 := hb.out.size
          have hidx : ((L.length : Int) + (k : Int)).toNat = L.length + k := by omega
          have hlt0 : (0 : Int) ≤ (L.length : Int) + (k : Int) := by omega
          have hlt1 : (L.length : Int) + (k : Int) < ((L.length + M.length : Nat) : Int) := by omega
          have hlt2 : (L.length : Int) + (k : Int) < (L.length : Int) + (M.length : Int) := by omega
          have hkw : IntKind.i64.wrap ((L.length : Int) + (k : Int)) = (L.length : Int) + (k : Int) := by rw [IntKind.wrap_i64]; omega
          have hlw : IntKind.i64.wrap (xl + (L.length : Int)) = xl + (L.length : Int) := by rw [IntKind.wrap_i64]; omega
          have qt := Bl.strEq xt
          have HX0 := Lib.hid (Kept.first wr 53 #[.int .i64 0, .string ⟨#[]⟩, .int .i64 0])
          have HX1 := Lib.hid (HX0.out.set #[.int .i64 xc, .string xt, .int .i64 xl])
          have HBX := Lib.hid (hb.out.trans (HX1.out.2.mono hsz0))
          have z0 := (HX1.out.2.cell (p := ⟨b3, off3 + (L.length + k) * 3, none⟩) hbl3).trans y0
          have z1 := (HX1.out.2.cell (p := ⟨b3, off3 + (L.length + k) * 3 + 1, none⟩) hbl3).trans y1
          have z2 := (HX1.out.2.cell (p := ⟨b3, off3 + (L.length + k) * 3 + 2, none⟩) hbl3).trans y2
          have hsx : ((wr.alloc (.cells #[.int .i64 0, .string ⟨#[]⟩, .int .i64 0] 53)).setRow wr.heap.size #[.int .i64 xc, .string xt, .int .i64 xl]).heap.size = wr.heap.size + 1 := by simp [World.setRow]
          clear hln y0 y1 y2
          subst hA2
          subst hA3
          go_wp2_with (first | (refine wpList_store_row rfl 53 _ _ rfl wr.heap.size #[.int .i64 xc, .string xt, .int .i64 xl] rfl rfl 53 _ HX0.out.1 (by kernel_rfl) rfl (row_one _ _ _) ?_; generalize ((wr.alloc _).setRow _ _) = wx at HX1 HBX z0 z1 z2 hsx ⊢; have HNY : Hid ((wx.alloc (.cells #[.int .i64 0, .string ⟨#[]⟩, .int .i64 0] 53)).heap[wr.heap.size + 1]? = some (.cells #[.int .i64 0, .string ⟨#[]⟩, .int .i64 0] 53 (0, 0))) := (by show _ = _; rw [← hsx]; exact heap_alloc_new _ _); have HBW : Below wx.heap.size wx ((wx.alloc (.cells #[.int .i64 0, .string ⟨#[]⟩, .int .i64 0] 53)).setRow (wr.heap.size + 1) #[.int .i64 xc, .string xt, .int .i64 (xl + (L.length : Nat))]) := ((Below.refl _ wx).alloc (Nat.le_refl _) _).trans (bl_setRow_below _ (by omega) _); have HBY := Lib.hid (HBX.out.trans (HBW.mono HBX.out.size)); have hy := setRow_heap _ _ _ #[.int .i64 xc, .string xt, .int .i64 (xl + (L.length : Nat))] _ _ HNY.out; have hx := (HBW.block _ (bl_block_lt HX1.out.1)).trans HX1.out.1; have u0 := bl_block_cell hy 0; have u1 := bl_block_cell hy 1; have u2 := bl_block_cell hy 2; have v0 := bl_block_cell hx 0; have v1 := bl_block_cell hx 1; have v2 := bl_block_cell hx 2; clear HBW hy hx) | (refine wpList_store_row rfl 53 _ _ rfl (wr.heap.size + 1) #[.int .i64 xc, .string xt, .int .i64 (xl + (L.length : Nat))] rfl rfl 53 _ HNY.out (by kernel_rfl) rfl (row_one _ _ _) ?_))
          go_roundw
          case rel => exact ⟨k + 1, by omega, by go_num, HBY.out⟩
          case measure => simp [intOf]; omega
        · obtain rfl : k = M.length := by omega
          have HBF := Lib.hid (HB8.out.trans (hb.out.mono HB8.out.size))
          go_wp2_with fail
          refine (AL.out _ HBF.out).mono ?_
          rintro e w9 ⟨rfl, hb9⟩
          have HB9 := Lib.hid (HBF.out.trans (hb9.mono HBF.out.size))
          clear hb9
          go_wp2_with fail
          go_ret
          exact ⟨rfl, HB9.out⟩
end Go.Proofs.YtnggbhpnpomfjaaDoor
