/- The law 'RowsReads': the lines and rows of any text, or its fault, are the document's. Conditions: the decoder's tables as they are laid; the second form's bound on the bulk. -/
import Derived.Test.YtnggbhpnpomfjaaDoorRwRRead
import Derived.Test.YtnggbhpnpomfjaaDoorRwAlive
import Derived.Test.YtnggbhpnpomfjaaDoorUtOpen
set_option linter.unusedVariables false
namespace Go.Proofs.YtnggbhpnpomfjaaDoor.Rw
open Go.RowKit Bl
def firstBad (l : List UInt8) : Option Nat := (List.range (linesL l).length).find? (fun k => faultN (lineN l k) != 0)
def readF (l : List UInt8) : Int × Int := if 65536 < l.length then (5, 0) else match firstBad l with
  | some k => (faultN (lineN l k), (k : Int) + 1)
  | none => (0, 0)
def readR (l : List UInt8) : List Rw := if 65536 < l.length then [] else match firstBad l with
  | some k => []
  | none => rowsN (linesL l)
theorem bad_some {l : List UInt8} {k : Nat} (hk : k < (linesL l).length) (h : faultN (lineN l k) ≠ 0) (hb : ∀ j, j < k → faultN (lineN l j) = 0) : firstBad l = some k := by
  unfold firstBad
  rw [List.find?_range_eq_some]
  exact ⟨by simpa using h, List.mem_range.2 hk, fun j hj => by rw [hb j hj]; rfl⟩
theorem bad_none {l : List UInt8} (hb : ∀ j, j < (linesL l).length → faultN (lineN l j) = 0) : firstBad l = none := by
  unfold firstBad
  rw [List.find?_range_eq_none]
  exact fun j hj => by rw [hb j hj]; rfl
theorem rowsN_ok {L : List (List UInt8)} (hl : L.length ≤ 1000000000) (hz : ∀ x ∈ L, x.length ≤ 1000000000) : ∀ r ∈ rowsN L, r.ok := by
  intro r hr
  unfold rowsN at hr
  obtain ⟨k, hk, rfl⟩ := List.mem_mapIdx.1 hr
  have h1 := blanks_le L[k]
  have h2 := hz L[k] (List.getElem_mem hk)
  unfold Rw.ok rowN
  simp only
  omega
theorem readR_ok (l : List UInt8) : ∀ r ∈ readR l, r.ok := by
  unfold readR
  split
  · intro r hr; cases hr
  · split
    · intro r hr; cases hr
    · have h1 := linesL_len l
      have h2 := linesL_each l
      exact rowsN_ok (by omega) (fun x hx => by have := h2 x hx; omega)
theorem readR_len (l : List UInt8) : (readR l).length ≤ 65537 := by
  unfold readR
  split
  · simp
  · split
    · simp
    · rw [rowsN_len]; have := linesL_len l; omega
theorem read_form {l : List UInt8} {w w' : World} {e : Ending} (h : ReadPost l w e w') : Below w.heap.size w w' ∧ ∃ A c, e = .returned (.tuple #[.slice A (readR l).length c, .agg #[.int .i64 (readF l).1, .int .i64 (readF l).2]]) ∧ w'.ownsRow w.heap.size 53 3 (.slice A (readR l).length c) (readR l).length (rowVs (readR l)) := by
  obtain ⟨hb, ⟨hm, rfl⟩ | ⟨hm, k, hk, hno, hf, rfl⟩ | ⟨hm, hno, row, rfl, hown⟩⟩ := h
  · refine ⟨hb, none, 0, ?_, ?_⟩
    · unfold readR readF; rw [if_pos hm, if_pos hm]; rfl
    · unfold readR; rw [if_pos hm]; exact World.ownsRow_nil _ _ _ _
  · have hb2 := bad_some hk hf hno
    refine ⟨hb, none, 0, ?_, ?_⟩
    · unfold readR readF; rw [if_neg (by omega), if_neg (by omega), hb2]; rfl
    · unfold readR; rw [if_neg (by omega), hb2]; exact World.ownsRow_nil _ _ _ _
  · have hb2 := bad_none hno
    have e1 : readR l = rowsN (linesL l) := by unfold readR; rw [if_neg (by omega), hb2]
    have e2 : readF l = (0, 0) := by unfold readF; rw [if_neg (by omega), hb2]
    rw [e1, e2, rowsN_len]
    obtain ⟨A, c, rfl, _⟩ := bl_own_len hown
    exact ⟨hb, A, c, rfl, hown⟩
set_option maxHeartbeats 800000 in
theorem texts_same2 (A A' : Option Addr) (c c' : Nat) (ss : List ByteArray) (w : World) (g : StrsIn w A c ss) (g' : StrsIn w A' c' ss) (hl : ss.length ≤ 1000000000) :
    Calls Tryd.prog 36 #[.slice A ss.length c, .slice A' ss.length c'] w fun e w' => e = .returned (.bool true) ∧ Below w.heap.size w w' := by
  have hbn : ((ss.length : Int) != (ss.length : Int)) = false := by simp
  have G := Lib.hid g
  have G' := Lib.hid g'
  clear g g'
  go_enter Tryd.func36, Tryd.ntmps36
  go_wp2_with fail
  go_loopw [5] (fun i wr => ∃ k : Nat, k ≤ ss.length ∧ i = .int .i64 (k : Nat) ∧ ∃ n, wr = w.drewN n) (fun i _ => ss.length - (intOf i).toNat)
  case atStart => exact ⟨0, Nat.zero_le _, rfl, 0, rfl⟩
  case round =>
    obtain ⟨k, hk, rfl, n, rfl⟩ := hrel
    by_cases hlt : k < ss.length
    · obtain ⟨b, off, hA, hbl, hc0⟩ := G.out.at_ k hlt
      obtain ⟨b', off', hA', hbl', hc1⟩ := G'.out.at_ k hlt
      subst hA hA'
      generalize ss.getD k ByteArray.empty = x at hc0 hc1
      have hq := strEq x
      have h1 : (0 : Int) ≤ (k : Int) := by omega
      have h2 : (k : Int) < (ss.length : Int) := by omega
      go_wp2_with fail
      go_quiet (fail)
      go_wp2_with fail
      go_roundw
      case rel => exact ⟨k + 1, by omega, by go_num, _, rfl⟩
      case measure => simp [intOf]; omega
    · obtain rfl : ss.length = k := by omega
      go_wp2_with fail
      go_ret
      exact ⟨rfl, bl_dr (Below.refl _ _) _⟩
end Go.Proofs.YtnggbhpnpomfjaaDoor.Rw
namespace Go.Proofs.YtnggbhpnpomfjaaDoor
open Go.RowKit Bl
set_option maxRecDepth 100000 in
set_option maxHeartbeats 3200000 in
theorem law_RowsReads (w : World) (s : ByteArray) (zs : s.size ≤ 1048576) (hT : Tabs w) : Calls Tryd.prog 10 #[.string s] w (LawPost w) := by
  have AL := Lib.hid (fun W (hW : Below w.heap.size w W) => Rw.alive_any W (hT.below hW))
  by_cases hm : 20000 < s.size ∧ s.size ≤ 65536
  · obtain ⟨hm1, hm2⟩ := hm
    clear hT
    go_enter Tryd.func10, Tryd.ntmps10
    go_wp2_with fail
    refine (AL.out _ (Below.refl _ _)).mono ?_
    rintro e w4 ⟨rfl, hb4⟩
    have HB4 := Lib.hid hb4
    clear hb4
    go_wp2_with fail
    go_ret
    exact ⟨rfl, HB4.out⟩
  · have R1 := Lib.hid ((Rw.read_any s w hT).mono (fun e w' h => Rw.read_form h))
    have R2 := Lib.hid (fun W => (Rw.rread_any s W).mono (fun e w' h => Rw.read_form h))
    have L1 := Lib.hid (fun W => Rw.lines_any s W (by omega))
    have L2 := Lib.hid (fun W => Rw.rlines_any s W (by omega))
    have hrok := Rw.readR_ok s.data.toList
    have hrl := Rw.readR_len s.data.toList
    have hll := Rw.linesL_len s.data.toList
    rw [Bl.bl_size] at hll
    generalize Rw.readR s.data.toList = rs at R1 R2 hrok hrl
    generalize Rw.readF s.data.toList = ff at R1 R2
    generalize Rw.linesL s.data.toList = L at L1 L2 hll
    obtain ⟨fx, fy⟩ := ff
    simp only at R1 R2
    have q1 : (fx == fx) = true := beq_self_eq_true _
    have q2 : (fy == fy) = true := beq_self_eq_true _
    have HROK := Lib.hid hrok
    have HRL := Lib.hid hrl
    have HLL : Hid (L.length ≤ 1000000000) := by show _ ≤ _; omega
    have hdec : (decide (20000 < s.size) && decide (s.size ≤ 65536)) = false := by
      by_cases h1 : 20000 < s.size
      · rw [decide_eq_false (fun h => hm ⟨h1, h⟩), Bool.and_false]
      · rw [decide_eq_false h1, Bool.false_and]
    have hsp : (¬ 20000 < s.size) ∨ (20000 < s.size ∧ ¬ s.size ≤ 65536) := by omega
    clear hT hrok hrl hll hm hdec
    rcases hsp with hs1 | ⟨hs1, hs2⟩
    all_goals
      go_enter Tryd.func10, Tryd.ntmps10
      go_wp2_with fail
      refine R1.out.mono ?_
      rintro e w2 ⟨hb2, A1, c1, rfl, ho1⟩
      have HB2 := Lib.hid hb2
      have HL0 := Lib.hid (Kept.first w2 33 #[.int .i64 0, .int .i64 0])
      have HL1 := Lib.hid (HL0.out.set #[.int .i64 fx, .int .i64 fy])
      have HB3 := Lib.hid (HB2.out.trans (HL1.out.2.mono HB2.out.size))
      have RI3 := Lib.hid ((rows_own ho1 rfl HROK.out).below HL1.out.2)
      clear hb2 ho1
      go_wp2_with (refine wpList_store_row rfl 33 _ _ rfl w2.heap.size #[.int .i64 fx, .int .i64 fy] rfl rfl 33 _ HL0.out.1 (by kernel_rfl) rfl (two_one _ _) ?_)
      generalize ((w2.alloc _).setRow _ _) = w3 at HL1 HB3 RI3 ⊢
      refine (R2.out _).mono ?_
      rintro e w4 ⟨hb4, A2, c2, rfl, ho2⟩
      have HM0 := Lib.hid (Kept.first w4 33 #[.int .i64 0, .int .i64 0])
      have HM1 := Lib.hid (HM0.out.set #[.int .i64 fx, .int .i64 fy])
      have HBA := Lib.hid (hb4.trans (HM1.out.2.mono hb4.size))
      have HB5 := Lib.hid (HB3.out.trans (HBA.out.mono HB3.out.size))
      have HL5 := Lib.hid (HL1.out.below HBA.out)
      have RI5 := Lib.hid (RI3.out.below HBA.out)
      have RJ5 := Lib.hid ((rows_own ho2 rfl HROK.out).below HM1.out.2)
      clear hb4 ho2
      go_wp2_with (refine wpList_store_row rfl 33 _ _ rfl w4.heap.size #[.int .i64 fx, .int .i64 fy] rfl rfl 33 _ HM0.out.1 (by kernel_rfl) rfl (two_one _ _) ?_)
      generalize ((w4.alloc _).setRow _ _) = w5 at HM1 HB5 HL5 RI5 RJ5 ⊢
      refine (L1.out _).mono ?_
      rintro e w6 ⟨row6, rfl, ho6, hb6⟩
      obtain ⟨A6, c6, rfl, _⟩ := bl_own_len ho6
      have g6 := strs_own ho6 rfl (Nat.le_refl _)
      rw [List.take_length] at g6
      have G6 := Lib.hid g6
      have HB6 := Lib.hid hb6
      clear ho6 hb6 g6
      go_wp2_with fail
      refine (L2.out _).mono ?_
      rintro e w7 ⟨row7, rfl, ho7, hb7⟩
      obtain ⟨A7, c7, rfl, _⟩ := bl_own_len ho7
      have g7 := strs_own ho7 rfl (Nat.le_refl _)
      rw [List.take_length] at g7
      have HB7 := Lib.hid (HB6.out.trans (hb7.mono HB6.out.size))
      have TX := Rw.texts_same2 A6 A7 c6 c7 _ w7 (G6.out.below hb7) g7 (by rw [List.length_map]; exact HLL.out)
      rw [List.length_map] at TX
      clear ho7 hb7 g7
      go_wp2_with fail
      refine TX.mono ?_
      rintro e w8 ⟨rfl, hb8⟩
      have HB8 := Lib.hid (HB7.out.trans (hb8.mono HB7.out.size))
      have SM := Rw.rsame_any A1 A2 c1 c2 rs rs w8 (RI5.out.below HB8.out) (RJ5.out.below HB8.out) (by have := HRL.out; omega) (by have := HRL.out; omega)
      rw [Rw.sameN_self] at SM
      clear hb8 TX
      go_wp2_with fail
      refine SM.mono ?_
      rintro e w9 ⟨rfl, hb9⟩
      have HB9 := Lib.hid (HB8.out.trans (hb9.mono HB8.out.size))
      have HL9 := Lib.hid (HL5.out.below HB9.out)
      have HM9 := Lib.hid (HM1.out.below HB9.out)
      have g0 := HL9.out.cell 0
      have g1 := HL9.out.cell 1
      have g2 := HM9.out.cell 0
      have g3 := HM9.out.cell 1
      have HBF := Lib.hid (HB5.out.trans (HB9.out.mono HB5.out.size))
      clear hb9 SM
      go_wp2_with fail
      refine (AL.out _ HBF.out).mono ?_
      rintro e wa ⟨rfl, hba⟩
      have HBZ := Lib.hid (HBF.out.trans (hba.mono HBF.out.size))
      clear hba
      go_wp2_with fail
      go_ret
      exact ⟨rfl, HBZ.out⟩
end Go.Proofs.YtnggbhpnpomfjaaDoor
