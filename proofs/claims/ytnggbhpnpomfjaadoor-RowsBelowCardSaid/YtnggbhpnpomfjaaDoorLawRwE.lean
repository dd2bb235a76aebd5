/- The law 'RowsBelow': all rows that lie below are empty, or deeper; the last one is not empty, and the next one that is not is no deeper. Conditions: the decoder's tables as they are laid. -/
import Derived.Test.YtnggbhpnpomfjaaDoorRwBelow
import Derived.Test.YtnggbhpnpomfjaaDoorRwAlive
import Derived.Test.YtnggbhpnpomfjaaDoorUtOpen
set_option linter.unusedVariables false
namespace Go.Proofs.YtnggbhpnpomfjaaDoor.Rw
open Go.RowKit Bl
def fromA (A : Option Addr) (c k : Nat) : Option Addr := if c = k then A else A.map (·.add (k * 3))
theorem rows_from (A : Option Addr) (len cap k : Nat) (hk : k ≤ len) (w : World) :
    (Instr.sliceAt 44 (.slice A len cap) (some (.int .i64 (k : Int))) none none).run Tryd.prog w = .ok (.slice (fromA A cap k) (len - k) (cap - k)) w := by
  have ht : Tryd.prog.underlying 44 = some (.slice (Tryd.prog.elem 44)) := by kernel_rfl
  have hs : (sizeOf (Tryd.prog.elem 44)).run Tryd.prog w = .ok 3 w := by kernel_rfl
  rw [run_sliceAt_slice w _ _ _ _ _ ht, run_slice_l w _ A len cap ht .i64 (k : Int) (by omega) (by omega), hs]
  simp [sliced, fromA, Result.andThen]
theorem rows_drop {w : World} {A : Option Addr} {c : Nat} {rs : List Rw} (g : Bl.RowsIn w A c rs) (k : Nat) : Bl.RowsIn w (fromA A c k) (c - k) (rs.drop k) := by
  have e : ∀ i, (rs.drop k).getD i rw0 = rs.getD (k + i) rw0 := fun i => by rw [List.getD_eq_getElem?_getD, List.getElem?_drop, ← List.getD_eq_getElem?_getD]
  have hcap := g.cap
  refine ⟨fun i hi => ?_, fun i hi => ?_, ?_⟩
  · rw [List.length_drop] at hi
    obtain ⟨b, off, rfl, h2, h3, h4, h5⟩ := g.at_ (k + i) (by omega)
    rw [e]
    refine ⟨b, off + k * 3, ?_, h2, ?_, ?_, ?_⟩
    · unfold fromA
      rw [if_neg (by omega)]
      have hadd : ∀ o n, (⟨b, o, none⟩ : Addr).add n = ⟨b, o + n, none⟩ := by intro o n; unfold Addr.add; split <;> simp_all
      simp [hadd]
    · rw [← h3]; congr 2; omega
    · rw [← h4]; congr 2; omega
    · rw [← h5]; congr 2; omega
  · rw [List.length_drop] at hi
    rw [e]; exact g.rng _ (by omega)
  · rw [List.length_drop]; omega
theorem below_low {rs : List Rw} {col : Int} {j : Nat} (h : j < belowN rs col) : stopN col (rs.getD j rw0) = false := cntN_before (Nat.lt_of_lt_of_le h (belowN_le rs col).1)
theorem below_high {rs : List Rw} {col : Int} {i : Nat} (hi : belowN rs col + i < rs.length) (hem : ∀ m, m < i → emN (rs.getD (belowN rs col + m) rw0) = true) (h : emN (rs.getD (belowN rs col + i) rw0) = false) : stopN col (rs.getD (belowN rs col + i) rw0) = true := by
  have hle := (belowN_le rs col).1
  have h1 : ¬ belowN rs col + i < cntN rs col := fun hlt => by
    have := backN_em rs (cntN rs col) (belowN rs col + i) (Nat.le_add_right _ _) hlt
    rw [this] at h; cases h
  have h2 : belowN rs col + i = cntN rs col := by
    rcases Nat.lt_or_ge (cntN rs col) (belowN rs col + i) with h3 | h3
    · exfalso
      have h4 := cntN_at (rs := rs) (col := col) (by omega)
      have h5 := hem (cntN rs col - belowN rs col) (by omega)
      rw [show belowN rs col + (cntN rs col - belowN rs col) = cntN rs col by omega] at h5
      unfold stopN at h4
      rw [h5] at h4
      cases h4
    · omega
  rw [h2]
  exact cntN_at (by omega)
end Go.Proofs.YtnggbhpnpomfjaaDoor.Rw
namespace Go.Proofs.YtnggbhpnpomfjaaDoor
open Go.RowKit Bl
set_option maxRecDepth 100000 in
set_option maxHeartbeats 3200000 in
theorem law_RowsBelow (w : World) (A : Option Addr) (c : Nat) (rs : List Rw) (g : Bl.RowsIn w A c rs) (hl : rs.length ≤ 17592186044416) (col : Int) (hcol : -9223372036854775808 ≤ col ∧ col ≤ 9223372036854775807) (hT : Tabs w) :
    Calls Tryd.prog 14 #[.slice A rs.length c, .int .i64 col] w (LawPost w) := by
  have AL := Lib.hid (fun W (hW : Below w.heap.size w W) => Rw.alive_any W (hT.below hW))
  have BL := Lib.hid (Rw.below_any A c rs col w g hl)
  have G := Lib.hid g
  have hnl := (Rw.belowN_le rs col).2
  have HLOW : Hid (∀ j, j < Rw.belowN rs col → Rw.stopN col (rs.getD j rw0) = false) := fun j h => Rw.below_low h
  have HHI : Hid (∀ i, Rw.belowN rs col + i < rs.length → (∀ m, m < i → Rw.emN (rs.getD (Rw.belowN rs col + m) rw0) = true) → Rw.emN (rs.getD (Rw.belowN rs col + i) rw0) = false → Rw.stopN col (rs.getD (Rw.belowN rs col + i) rw0) = true) := fun i h1 h2 h3 => Rw.below_high h1 h2 h3
  have HFU : Hid (0 < Rw.belowN rs col → Rw.emN (rs.getD (Rw.belowN rs col - 1) rw0) = false) := fun h => Rw.backN_full rs _ h
  generalize Rw.belowN rs col = n at BL hnl HLOW HHI HFU
  have hto := fun W => rows_to A rs.length c n (by have := g.cap; omega) W
  have hfr := fun W => Rw.rows_from A rs.length c n hnl W
  have hn0 : ¬ ((n : Int) < 0) := by omega
  have hn1 : ¬ ((rs.length : Int) < (n : Int)) := by omega
  have hnd : decide (rs.length < n) = false := decide_eq_false (by omega)
  have hsubI : ((rs.length - n : Nat) : Int) = (rs.length : Int) - (n : Int) := by omega
  clear g hT
  by_cases hz : n = 0
  · have hnp : ¬ ((0 : Int) < (n : Int)) := by omega
    have hnpd : decide (0 < n) = false := decide_eq_false (by omega)
    have HZ := Lib.hid hz
    clear hz HFU
    go_enter Tryd.func14, Tryd.ntmps14
    go_wp2_with fail
    refine BL.out.mono ?_
    rintro e w1 ⟨rfl, hb1⟩
    have HBL := Lib.hid hb1
    clear hb1
    go_wp2_with fail
    go_loopw [37] (fun v wr => ∃ j : Nat, j ≤ n ∧ v = .int .i64 (j : Nat) ∧ Hid (Below w.heap.size w wr)) (fun v _ => n - (intOf v).toNat)
    case atStart => exact ⟨0, Nat.zero_le _, rfl, HBL.out⟩
    case round =>
      obtain ⟨j, hj, rfl, hb⟩ := hrel
      by_cases hlt : j < n
      · exact absurd hlt (by have := HZ.out; omega)
      · obtain rfl : j = n := by omega
        go_wp2_with fail
        go_loopw [55] (fun v wr => ∃ i : Nat, i ≤ rs.length - j ∧ v = .int .i64 (i : Nat) ∧ Hid (∀ m, m < i → Rw.emN (rs.getD (j + m) rw0) = true) ∧ Hid (Below w.heap.size w wr)) (fun v _ => (rs.length - j) - (intOf v).toNat)
        case atStart => exact ⟨0, Nat.zero_le _, rfl, (fun m h => by omega), hb.out⟩
        case round =>
          clear hb
          obtain ⟨i, hi, rfl, hem, hb⟩ := hrel
          by_cases hil : i < rs.length - j
          · have hil' : (i : Int) < ((rs.length - j : Nat) : Int) := by omega
            have hil2 : (i : Int) < (rs.length : Int) - (j : Int) := by omega
            obtain ⟨b, off, hA, hbl, c0, c1, c2⟩ := ((Rw.rows_drop G.out j).below hb.out).at_ i (by rw [List.length_drop]; exact hil)
            have hgd : (rs.drop j).getD i rw0 = rs.getD (j + i) rw0 := by rw [List.getD_eq_getElem?_getD, List.getElem?_drop, ← List.getD_eq_getElem?_getD]
            rw [hgd] at c0 c1 c2
            have EM := Lib.hid (fun W => Rw.rempty_any (rs.getD (j + i) rw0) W)
            have HNX : Hid (Rw.emN (rs.getD (j + i) rw0) = true → ∀ m, m < i + 1 → Rw.emN (rs.getD (j + m) rw0) = true) := fun h m hm => by
              rcases Nat.lt_or_ge m i with h1 | h1
              · exact hem.out m h1
              · have : m = i := by omega
                subst this; exact h
            have HST : Hid (Rw.emN (rs.getD (j + i) rw0) = false → Rw.stopN col (rs.getD (j + i) rw0) = true) := fun h => HHI.out i (by omega) hem.out h
            generalize rs.getD (j + i) rw0 = r at c0 c1 c2 EM HNX HST
            obtain ⟨rc, rt, rl⟩ := r
            simp only at c0 c1 c2 EM
            have hws := hb.out.size
            have HX0 := Lib.hid (Kept.first wr 53 #[.int .i64 0, .string ⟨#[]⟩, .int .i64 0])
            have HX1 := Lib.hid (HX0.out.set #[.int .i64 rc, .string rt, .int .i64 rl])
            have HB3 := Lib.hid (hb.out.trans (HX1.out.2.mono hws))
            have p0 := HX1.out.cell 0
            have p1 := HX1.out.cell 1
            have p2 := HX1.out.cell 2
            have HSS : Hid (Rw.stopN col ⟨rc, rt, rl⟩ = (!(Rw.emptyB rt.data.toList) && decide (rc ≤ col))) := rfl
            have HEE : Hid (Rw.emN ⟨rc, rt, rl⟩ = Rw.emptyB rt.data.toList) := rfl
            generalize Rw.emptyB rt.data.toList = q at EM HSS HEE
            clear hgd
            rw [hA]
            cases q with
            | true =>
              have HN2 := Lib.hid (HNX.out HEE.out)
              clear HSS HST HNX HEE
              go_wp2_with (refine wpList_store_row rfl 53 _ _ rfl wr.heap.size #[.int .i64 rc, .string rt, .int .i64 rl] rfl rfl 53 _ HX0.out.1 (by kernel_rfl) rfl (row_one _ _ _) ?_)
              refine (EM.out _).mono ?_
              rintro e w4 ⟨rfl, hb4⟩
              have HX4 := Lib.hid (HX1.out.below hb4)
              have HB4 := Lib.hid (HB3.out.trans (hb4.mono HB3.out.size))
              have s0 := HX4.out.cell 0
              have s1 := HX4.out.cell 1
              have s2 := HX4.out.cell 2
              clear hb4 p0 p1 p2
              go_wp2_with fail
              go_roundw
              case rel => exact ⟨i + 1, by omega, by go_num, HN2.out, HB4.out⟩
              case measure => simp [intOf]; omega
            | false =>
              have hrd : decide (rc ≤ col) = true := by
                have h1 := HST.out HEE.out
                rw [HSS.out] at h1
                exact h1
              have hrc : rc ≤ col := of_decide_eq_true hrd
              clear HSS HST HNX HEE
              go_wp2_with (refine wpList_store_row rfl 53 _ _ rfl wr.heap.size #[.int .i64 rc, .string rt, .int .i64 rl] rfl rfl 53 _ HX0.out.1 (by kernel_rfl) rfl (row_one _ _ _) ?_)
              refine (EM.out _).mono ?_
              rintro e w4 ⟨rfl, hb4⟩
              have HX4 := Lib.hid (HX1.out.below hb4)
              have HB4 := Lib.hid (HB3.out.trans (hb4.mono HB3.out.size))
              have s0 := HX4.out.cell 0
              have s1 := HX4.out.cell 1
              have s2 := HX4.out.cell 2
              clear hb4 p0 p1 p2
              have HBF := HB4
              go_wp2_with fail
              refine (AL.out _ HBF.out).mono ?_
              rintro e w9 ⟨rfl, hb9⟩
              have HB9 := Lib.hid (HBF.out.trans (hb9.mono HBF.out.size))
              clear hb9
              go_wp2_with fail
              go_ret
              exact ⟨rfl, HB9.out⟩
          · obtain rfl : i = rs.length - j := by omega
            have HBF := hb
            go_wp2_with fail
            refine (AL.out _ HBF.out).mono ?_
            rintro e w9 ⟨rfl, hb9⟩
            have HB9 := Lib.hid (HBF.out.trans (hb9.mono HBF.out.size))
            clear hb9
            go_wp2_with fail
            go_ret
            exact ⟨rfl, HB9.out⟩
  · have hnp : (0 : Int) < (n : Int) := by omega
    have hnpd : decide (0 < n) = true := decide_eq_true (by omega)
    have hm : n - 1 < rs.length := by omega
    obtain ⟨b, off, hA, hbl, c0, c1, c2⟩ := G.out.at_ (n - 1) hm
    have EM0 := Lib.hid (fun W => Rw.rempty_any (rs.getD (n - 1) rw0) W)
    have HF := Lib.hid (HFU.out (by omega))
    have hidx : ((n : Int) - 1).toNat = n - 1 := by omega
    have hlt0 : (0 : Int) ≤ (n : Int) - 1 := by omega
    have hlt1 : (n : Int) - 1 < (rs.length : Int) := by omega
    have hkw : IntKind.i64.wrap ((n : Int) - 1) = (n : Int) - 1 := by rw [IntKind.wrap_i64]; omega
    generalize rs.getD (n - 1) rw0 = r at c0 c1 c2 EM0 HF
    obtain ⟨rc, rt, rl⟩ := r
    simp only at c0 c1 c2 EM0
    have HEE : Hid (Rw.emptyB rt.data.toList = false) := HF.out
    rw [HEE.out] at EM0
    have HA := Lib.hid hA
    have HCB : Hid (∀ W : World, Below w.heap.size w W → W.cell? ⟨b, off + (n - 1) * 3, none⟩ = some (.int .i64 rc) ∧ W.cell? ⟨b, off + (n - 1) * 3 + 1, none⟩ = some (.string rt) ∧ W.cell? ⟨b, off + (n - 1) * 3 + 2, none⟩ = some (.int .i64 rl)) := fun W hW =>
      ⟨(hW.cell (p := ⟨b, off + (n - 1) * 3, none⟩) hbl).trans c0, (hW.cell (p := ⟨b, off + (n - 1) * 3 + 1, none⟩) hbl).trans c1, (hW.cell (p := ⟨b, off + (n - 1) * 3 + 2, none⟩) hbl).trans c2⟩
    clear c0 c1 c2 HFU HF HEE
    subst hA
    go_enter Tryd.func14, Tryd.ntmps14
    go_wp2_with fail
    refine BL.out.mono ?_
    rintro e w1 ⟨rfl, hb1⟩
    obtain ⟨d0, d1, d2⟩ := HCB.out w1 hb1
    have HB1 := Lib.hid hb1
    clear hb1
    go_wp2_with fail
    refine (EM0.out _).mono ?_
    rintro e w2 ⟨rfl, hb2⟩
    have HBL := Lib.hid (HB1.out.trans (hb2.mono HB1.out.size))
    clear hb2 d0 d1 d2 hbl hidx hlt0 hlt1
    go_wp2_with fail
    go_loopw [37] (fun v wr => ∃ j : Nat, j ≤ n ∧ v = .int .i64 (j : Nat) ∧ Hid (Below w.heap.size w wr)) (fun v _ => n - (intOf v).toNat)
    case atStart => exact ⟨0, Nat.zero_le _, rfl, HBL.out⟩
    case round =>
      obtain ⟨j, hj, rfl, hb⟩ := hrel
      by_cases hlt : j < n
      · have hlt' : (j : Int) < (n : Int) := by omega
        have hjl : j < rs.length := by omega
        obtain ⟨b, off, hA, hbl, c0, c1, c2⟩ := (G.out.below hb.out).at_ j hjl
        have EM := Lib.hid (fun W => Rw.rempty_any (rs.getD j rw0) W)
        have HST := Lib.hid (HLOW.out j hlt)
        generalize rs.getD j rw0 = r at c0 c1 c2 EM HST
        obtain ⟨rc, rt, rl⟩ := r
        simp only at c0 c1 c2 EM
        have hws := hb.out.size
        have HX0 := Lib.hid (Kept.first wr 53 #[.int .i64 0, .string ⟨#[]⟩, .int .i64 0])
        have HX1 := Lib.hid (HX0.out.set #[.int .i64 rc, .string rt, .int .i64 rl])
        have HB3 := Lib.hid (hb.out.trans (HX1.out.2.mono hws))
        have p0 := HX1.out.cell 0
        have p1 := HX1.out.cell 1
        have p2 := HX1.out.cell 2
        have HSS : Hid (Rw.stopN col ⟨rc, rt, rl⟩ = (!(Rw.emptyB rt.data.toList) && decide (rc ≤ col))) := rfl
        generalize Rw.emptyB rt.data.toList = q at EM HSS
        first
        | subst hA
        | (simp only [Option.some.injEq, Addr.mk.injEq, and_true] at hA; obtain ⟨rfl, rfl⟩ := hA)
        cases q with
        | true =>
          clear HSS HST
          go_wp2_with (refine wpList_store_row rfl 53 _ _ rfl wr.heap.size #[.int .i64 rc, .string rt, .int .i64 rl] rfl rfl 53 _ HX0.out.1 (by kernel_rfl) rfl (row_one _ _ _) ?_)
          refine (EM.out _).mono ?_
          rintro e w4 ⟨rfl, hb4⟩
          have HX4 := Lib.hid (HX1.out.below hb4)
          have HB4 := Lib.hid (HB3.out.trans (hb4.mono HB3.out.size))
          have s0 := HX4.out.cell 0
          have s1 := HX4.out.cell 1
          have s2 := HX4.out.cell 2
          clear hb4 p0 p1 p2
          go_wp2_with fail
          go_roundw
          case rel => exact ⟨j + 1, by omega, by go_num, HB4.out⟩
          case measure => simp [intOf]; omega
        | false =>
          have hrd : decide (rc ≤ col) = false := by
            have h1 := HST.out
            rw [HSS.out] at h1
            exact h1
          have hrc : ¬ rc ≤ col := of_decide_eq_false hrd
          have hrc2 : col < rc := by omega
          clear HSS HST
          go_wp2_with (refine wpList_store_row rfl 53 _ _ rfl wr.heap.size #[.int .i64 rc, .string rt, .int .i64 rl] rfl rfl 53 _ HX0.out.1 (by kernel_rfl) rfl (row_one _ _ _) ?_)
          refine (EM.out _).mono ?_
          rintro e w4 ⟨rfl, hb4⟩
          have HX4 := Lib.hid (HX1.out.below hb4)
          have HB4 := Lib.hid (HB3.out.trans (hb4.mono HB3.out.size))
          have s0 := HX4.out.cell 0
          have s1 := HX4.out.cell 1
          have s2 := HX4.out.cell 2
          clear hb4 p0 p1 p2
          go_wp2_with fail
          go_roundw
          case rel => exact ⟨j + 1, by omega, by go_num, HB4.out⟩
          case measure => simp [intOf]; omega
      · obtain rfl : j = n := by omega
        go_wp2_with fail
        go_loopw [55] (fun v wr => ∃ i : Nat, i ≤ rs.length - j ∧ v = .int .i64 (i : Nat) ∧ Hid (∀ m, m < i → Rw.emN (rs.getD (j + m) rw0) = true) ∧ Hid (Below w.heap.size w wr)) (fun v _ => (rs.length - j) - (intOf v).toNat)
        case atStart => exact ⟨0, Nat.zero_le _, rfl, (fun m h => by omega), hb.out⟩
        case round =>
          clear hb
          obtain ⟨i, hi, rfl, hem, hb⟩ := hrel
          by_cases hil : i < rs.length - j
          · have hil' : (i : Int) < ((rs.length - j : Nat) : Int) := by omega
            have hil2 : (i : Int) < (rs.length : Int) - (j : Int) := by omega
            obtain ⟨b, off, hA, hbl, c0, c1, c2⟩ := ((Rw.rows_drop G.out j).below hb.out).at_ i (by rw [List.length_drop]; exact hil)
            have hgd : (rs.drop j).getD i rw0 = rs.getD (j + i) rw0 := by rw [List.getD_eq_getElem?_getD, List.getElem?_drop, ← List.getD_eq_getElem?_getD]
            rw [hgd] at c0 c1 c2
            have EM := Lib.hid (fun W => Rw.rempty_any (rs.getD (j + i) rw0) W)
            have HNX : Hid (Rw.emN (rs.getD (j + i) rw0) = true → ∀ m, m < i + 1 → Rw.emN (rs.getD (j + m) rw0) = true) := fun h m hm => by
              rcases Nat.lt_or_ge m i with h1 | h1
              · exact hem.out m h1
              · have : m = i := by omega
                subst this; exact h
            have HST : Hid (Rw.emN (rs.getD (j + i) rw0) = false → Rw.stopN col (rs.getD (j + i) rw0) = true) := fun h => HHI.out i (by omega) hem.out h
            generalize rs.getD (j + i) rw0 = r at c0 c1 c2 EM HNX HST
            obtain ⟨rc, rt, rl⟩ := r
            simp only at c0 c1 c2 EM
            have hws := hb.out.size
            have HX0 := Lib.hid (Kept.first wr 53 #[.int .i64 0, .string ⟨#[]⟩, .int .i64 0])
            have HX1 := Lib.hid (HX0.out.set #[.int .i64 rc, .string rt, .int .i64 rl])
            have HB3 := Lib.hid (hb.out.trans (HX1.out.2.mono hws))
            have p0 := HX1.out.cell 0
            have p1 := HX1.out.cell 1
            have p2 := HX1.out.cell 2
            have HSS : Hid (Rw.stopN col ⟨rc, rt, rl⟩ = (!(Rw.emptyB rt.data.toList) && decide (rc ≤ col))) := rfl
            have HEE : Hid (Rw.emN ⟨rc, rt, rl⟩ = Rw.emptyB rt.data.toList) := rfl
            generalize Rw.emptyB rt.data.toList = q at EM HSS HEE
            clear hgd
            rw [hA]
            cases q with
            | true =>
              have HN2 := Lib.hid (HNX.out HEE.out)
              clear HSS HST HNX HEE
              go_wp2_with (refine wpList_store_row rfl 53 _ _ rfl wr.heap.size #[.int .i64 rc, .string rt, .int .i64 rl] rfl rfl 53 _ HX0.out.1 (by kernel_rfl) rfl (row_one _ _ _) ?_)
              refine (EM.out _).mono ?_
              rintro e w4 ⟨rfl, hb4⟩
              have HX4 := Lib.hid (HX1.out.below hb4)
              have HB4 := Lib.hid (HB3.out.trans (hb4.mono HB3.out.size))
              have s0 := HX4.out.cell 0
              have s1 := HX4.out.cell 1
              have s2 := HX4.out.cell 2
              clear hb4 p0 p1 p2
              go_wp2_with fail
              go_roundw
              case rel => exact ⟨i + 1, by omega, by go_num, HN2.out, HB4.out⟩
              case measure => simp [intOf]; omega
            | false =>
              have hrd : decide (rc ≤ col) = true := by
                have h1 := HST.out HEE.out
                rw [HSS.out] at h1
                exact h1
              have hrc : rc ≤ col := of_decide_eq_true hrd
              clear HSS HST HNX HEE
              go_wp2_with (refine wpList_store_row rfl 53 _ _ rfl wr.heap.size #[.int .i64 rc, .string rt, .int .i64 rl] rfl rfl 53 _ HX0.out.1 (by kernel_rfl) rfl (row_one _ _ _) ?_)
              refine (EM.out _).mono ?_
              rintro e w4 ⟨rfl, hb4⟩
              have HX4 := Lib.hid (HX1.out.below hb4)
              have HB4 := Lib.hid (HB3.out.trans (hb4.mono HB3.out.size))
              have s0 := HX4.out.cell 0
              have s1 := HX4.out.cell 1
              have s2 := HX4.out.cell 2
              clear hb4 p0 p1 p2
              have HBF := HB4
              go_wp2_with fail
              refine (AL.out _ HBF.out).mono ?_
              rintro e w9 ⟨rfl, hb9⟩
              have HB9 := Lib.hid (HBF.out.trans (hb9.mono HBF.out.size))
              clear hb9
              go_wp2_with fail
              go_ret
              exact ⟨rfl, HB9.out⟩
          · obtain rfl : i = rs.length - j := by omega
            have HBF := hb
            go_wp2_with fail
            refine (AL.out _ HBF.out).mono ?_
            rintro e w9 ⟨rfl, hb9⟩
            have HB9 := Lib.hid (HBF.out.trans (hb9.mono HBF.out.size))
            clear hb9
            go_wp2_with fail
            go_ret
            exact ⟨rfl, HB9.out⟩
end Go.Proofs.YtnggbhpnpomfjaaDoor
