/- Walks: the Builder's WriteByte; the program's Write: the text of any rows. Conditions: the text is no longer than 10^11 bytes, and no more than 10^6 rows. -/
import Derived.Test.YtnggbhpnpomfjaaDoorRwSame
import Derived.Lib.FrozenHead2
set_option linter.unusedVariables false
namespace Go.Proofs.YtnggbhpnpomfjaaDoor.Rw
open Go.RowKit Bl
theorem byteCells_one (c : UInt8) : Lib.byteCells [c] = [.int .u8 (c.toNat : Int)] := by
  first | rfl | simp [Lib.byteCells]
set_option maxHeartbeats 2000000 in
set_option maxRecDepth 100000 in
theorem writeByte_any (B b : Nat) (bs : List Value) (c : UInt8) (w : World) (h : Lib.IsBuilderF 76 5 B b bs w) (hlen : bs.length + 1 ≤ 140737488355328) (hBw : B ≤ w.heap.size) :
    Calls Tryd.prog 82 #[.pointer (some ⟨b, 0, none⟩), .int .u8 (c.toNat : Int)] w fun e w' => e = .returned .nilIface ∧ Held B b (bs ++ Lib.byteCells [c]) w w' := by
  obtain ⟨i0, hi, hz0, hz1, hz2⟩ := info_parts infoByte
  have C := Lib.hid (check_any B b bs w h)
  have HBC := Lib.hid (byteCells_one c)
  generalize (c.toNat : Int) = cc at HBC ⊢
  clear h
  go_enter Tryd.func82, Tryd.ntmps82
  go_wp2_with fail
  refine C.out.mono ?_
  rintro e w1 ⟨rfl, ⟨hB, v, hbk, hown, hne⟩, hb1, hk1⟩
  obtain ⟨ao, cap, rfl⟩ : ∃ ao cap, v = .slice ao bs.length cap := by
    rcases hown.2 with ⟨hv, h0⟩ | ⟨g, cap, cur, fz, hv, _⟩
    · exact ⟨none, 0, by rw [hv, h0]⟩
    · exact ⟨_, _, hv⟩
  have c1 : w1.cell? ⟨b, 1, none⟩ = some (.slice ao bs.length cap) := by rw [Lib.cell_of_heap hbk]; rfl
  have HBK := Lib.hid hbk
  have HOWN := Lib.hid hown
  have HNE := Lib.hid hne
  have HB1 := Lib.hid hb1
  have HK1 := Lib.hid hk1
  have hsz := hb1.size
  clear hbk hown hne hb1 hk1
  have hnew : ∀ j u, ([Value.int .u8 cc] : List Value)[j]? = some u → (w1.alloc (.cells #[.int .u8 cc] 5)).cell? ((⟨w1.heap.size, 0, none⟩ : Addr).add j) = some u := by
    intro j u hj
    match j, hj with
    | 0, hj => simp at hj; subst hj; simp [Addr.add]
    | (j + 1), hj => simp at hj
  have HNEW := Lib.hid hnew
  have HOA := Lib.hid (HOWN.out.alloc (.cells #[.int .u8 cc] 5))
  clear hnew
  go_wp2_with (at_builtin; refine wpList_append_ownF _ rfl _ _ 74 rfl B 5 i0 (.int .u8 0) 1 1 Tryd.underlying74 hi hz0 hz1 hz2 rfl (by decide) _ _ _ rfl HOA.out ⟨w1.heap.size, 0, none⟩ 1 1 [.int .u8 cc] rfl rfl HNEW.out (by intro u hu; simp at hu; subst hu; rfl) (by unfold maxLen; omega) (by omega) (by simp; omega) ?_)
  intro v' w2 hown' hgrow _
  have hlt : b < w1.heap.size := by
    rcases Nat.lt_or_ge b w1.heap.size with h' | h'
    · exact h'
    · have := HBK.out; rw [Array.getElem?_eq_none h'] at this; cases this
  have hb2 : w2.heap[b]? = some (.cells #[.pointer (some ⟨b, 0, none⟩), .slice ao bs.length cap] 76 (0, 0)) := by
    rw [hgrow.block b (by simp; omega) (fun e => HNE.out e.symm), Lib.alloc_old w1 _ b hlt]; exact HBK.out
  have HG := Lib.hid hgrow
  have d1 : w2.cell? ⟨b, 1, none⟩ = some (.slice ao bs.length cap) := by rw [Lib.cell_of_heap hb2]; rfl
  have f1 : w2.frozen? ⟨b, 1, none⟩ = false := Lib.frozen_of_heap hb2 1
  obtain ⟨ao', cap', rfl⟩ : ∃ ao' cap', v' = .slice ao' (bs.length + 1) cap' := by
    rcases hown'.2 with ⟨hv, h0⟩ | ⟨g, cap, cur, fz, hv, _⟩
    · exact ⟨none, 0, by rw [hv, h0]⟩
    · exact ⟨_, _, hv⟩
  have HOWN' := Lib.hid hown'
  clear hown' hgrow hb2
  go_wp2
  go_ret
  refine ⟨rfl, ?_⟩
  rw [HBC.out]
  exact held_put hBw hB HBK.out HB1.out HK1.out HOWN.out HNE.out (Or.inr ⟨_, rfl⟩) HG.out (by rw [List.length_append]; exact HOWN'.out)
/-- how many blanks stand ahead of a row -/
def padN (r : Rw) : Nat := (min (max r.col 0) 65536).toNat
def lineW (r : Rw) : List UInt8 := List.replicate (padN r) 32 ++ r.txt.data.toList ++ [10]
def writeL (rs : List Rw) : List UInt8 := rs.flatMap lineW
theorem writeL_snoc (rs : List Rw) (r : Rw) : writeL (rs ++ [r]) = writeL rs ++ lineW r := by simp [writeL]
theorem writeL_take_le (rs : List Rw) (k : Nat) : (writeL (rs.take k)).length ≤ (writeL rs).length := by
  conv => rhs; rw [← List.take_append_drop k rs]
  unfold writeL
  rw [List.flatMap_append, List.length_append]
  omega
theorem padN_le (r : Rw) : padN r ≤ 65536 := by unfold padN; omega
theorem rw_take {rs : List Rw} {k : Nat} (h : k < rs.length) : rs.take (k + 1) = rs.take k ++ [rs.getD k rw0] := by
  rw [List.take_succ_eq_append_getElem h, List.getD_eq_getElem?_getD, List.getElem?_eq_getElem h]; rfl
def wq3_row (w : World) (b : Nat) (rc : Int) (rt : ByteArray) (rl : Int) : Prop := w.heap[b]? = some (.cells #[.int .i64 rc, .string rt, .int .i64 rl] 53 (0, 0))
set_option maxRecDepth 100000 in
set_option maxHeartbeats 3200000 in
theorem write_any (A : Option Addr) (c : Nat) (rs : List Rw) (w : World) (g : Bl.RowsIn w A c rs) (hl : rs.length ≤ 1000000) (hz : (writeL rs).length ≤ 100000000000) :
    Calls Tryd.prog 45 #[.slice A rs.length c] w fun e w' => e = .returned (.string ⟨(writeL rs).toArray⟩) ∧ Below w.heap.size w w' := by
  have G := Lib.hid g
  have HI0 := Lib.hid (Lib.IsBuilderF.of (Lib.fresh_isBuilder 76 5 w))
  have HB0 := Lib.hid ((Below.refl w.heap.size w).alloc (Nat.le_refl _) (.cells #[.pointer none, .slice none 0 0] 76))
  have HZ : Hid (∀ k, (writeL (rs.take k)).length ≤ 100000000000) := fun k => Nat.le_trans (writeL_take_le rs k) hz
  clear g hz
  go_enter Tryd.func45, Tryd.ntmps45
  go_wp2_with fail
  go_loopw [8] (fun v wr => ∃ k : Nat, k ≤ rs.length ∧ v = .int .i64 (k : Nat) ∧ Hid (Lib.IsBuilderF 76 5 w.heap.size w.heap.size (Lib.byteCells (writeL (rs.take k))) wr) ∧ Hid (Below w.heap.size w wr)) (fun v _ => rs.length - (intOf v).toNat)
  case atStart => exact ⟨0, Nat.zero_le _, rfl, HI0.out, HB0.out⟩
  case round =>
    obtain ⟨k, hk, rfl, hi, hb⟩ := hrel
    by_cases hlt : k < rs.length
    · have hlt' : (k : Int) < (rs.length : Int) := by omega
      obtain ⟨b, off, hA, hbl, hc0, hc1, hc2⟩ := (G.out.below hb.out).at_ k hlt
      have HTK := Lib.hid (rw_take hlt)
      have hz1 := HZ.out (k + 1)
      have hz0 := HZ.out k
      have hok := G.out.rng k hlt
      generalize rs.getD k rw0 = r at hc0 hc1 hc2 HTK hok
      obtain ⟨rc, rt, rl⟩ := r
      simp only at hc0 hc1 hc2
      obtain ⟨hok1, hok2, _⟩ := hok
      simp only at hok1 hok2
      have hzz : (writeL (rs.take k)).length + (padN ⟨rc, rt, rl⟩ + rt.size + 1) ≤ 100000000000 := by
        rw [HTK.out, writeL_snoc, List.length_append] at hz1
        unfold lineW at hz1
        rw [List.length_append, List.length_append, List.length_replicate, bl_size] at hz1
        simp only [List.length_cons, List.length_nil] at hz1
        omega
      have hpl := padN_le ⟨rc, rt, rl⟩
      have hpad : min (max rc 0) 65536 = ((padN ⟨rc, rt, rl⟩ : Nat) : Int) := by unfold padN; simp only; omega
      have HLW : Hid (writeL (rs.take (k + 1)) = writeL (rs.take k) ++ (List.replicate (padN ⟨rc, rt, rl⟩) 32 ++ rt.data.toList ++ [10])) := by show _ = _; rw [HTK.out, writeL_snoc]; rfl
      generalize padN ⟨rc, rt, rl⟩ = p at hzz hpl hpad HLW
      have RB := Lib.hid (fun W => rep_blank p hpl W)
      obtain ⟨t, ht⟩ : ∃ t : ByteArray, t = ⟨(List.replicate p 32).toArray⟩ := ⟨_, rfl⟩
      have htd : t.data.toList = List.replicate p 32 := by rw [ht]
      have hts : t.size = p := by rw [← bl_size, htd, List.length_replicate]
      rw [← ht] at RB
      have HTD := Lib.hid htd
      have HR0 := Lib.hid (Kept.first wr 53 #[.int .i64 0, .string ⟨#[]⟩, .int .i64 0])
      have HR1 := Lib.hid (HR0.out.set #[.int .i64 rc, .string rt, .int .i64 rl])
      have HI1 := Lib.hid (bl_built_below hi.out HR1.out.2)
      have HB1 := Lib.hid (hb.out.trans (HR1.out.2.mono hb.out.size))
      have r0 := HR1.out.cell 0
      have r1 := HR1.out.cell 1
      subst hA
      have hi1 := hi.out
      clear ht htd hi hz1 hz0 hok1 hok2
      go_wp2_with (refine wpList_store_row rfl 53 _ _ rfl wr.heap.size #[.int .i64 rc, .string rt, .int .i64 rl] rfl rfl 53 _ HR0.out.1 (by kernel_rfl) rfl (row_one _ _ _) ?_)
      generalize ((wr.alloc _).setRow _ _) = wq at HR1 HI1 HB1 r0 r1 ⊢
      refine (RB.out _).mono ?_
      rintro e w2 ⟨rfl, hb2⟩
      have HR2 := Lib.hid (HR1.out.below hb2)
      have HB2 := Lib.hid (HB1.out.trans (hb2.mono HB1.out.size))
      have W1 := Lib.hid (writeString_any w.heap.size w.heap.size _ t w2 (bl_built_below HI1.out hb2) (by rw [Lib.byteCells_length]; omega) HB2.out.size)
      clear hb2 r0 r1
      go_wp2_with fail
      refine W1.out.mono ?_
      rintro e w3 ⟨rfl, hI3, hB3, hK3⟩
      have hne : some wr.heap.size ≠ some w.heap.size := by
        intro e
        have h1 : wr.heap.size = w.heap.size := Option.some.inj e
        have h2 := bl_block_lt HR2.out.1
        rcases hI3 with ⟨_, hbk, _⟩
        have h4 := hb.out.size
        rcases hi1 with ⟨_, _, h5, _⟩ | h5
        · exact absurd h1 (by have := bl_block_lt h5; omega)
        · obtain ⟨_, v, h5, _⟩ := h5
          exact absurd h1 (by have := bl_block_lt h5; omega)
      have HR3 : Hid (wq3_row w3 wr.heap.size rc rt rl) := hK3 _ _ HR2.out.1 hne (by intro c fz h; injection h with _ h _; exact absurd h (by decide))
      have HI3 : Hid (Lib.IsBuilderF 76 5 w.heap.size w.heap.size (Lib.byteCells (writeL (rs.take k) ++ List.replicate p 32)) w3) := by
        rw [Lib.byteCells_append, ← HTD.out]; exact Or.inr hI3
      have HB3 := Lib.hid (HB2.out.trans hB3)
      have s1 := bl_block_cell HR3.out 1
      clear hI3 hB3 hK3 hne
      have W2 := Lib.hid (writeString_any w.heap.size w.heap.size _ rt w3 HI3.out (by rw [Lib.byteCells_length, List.length_append, List.length_replicate]; omega) HB3.out.size)
      go_wp2_with fail
      refine W2.out.mono ?_
      rintro e w4 ⟨rfl, hI4, hB4, hK4⟩
      have HI4 : Hid (Lib.IsBuilderF 76 5 w.heap.size w.heap.size (Lib.byteCells ((writeL (rs.take k) ++ List.replicate p 32) ++ rt.data.toList)) w4) := by
        rw [Lib.byteCells_append]; exact Or.inr hI4
      have HB4 := Lib.hid (HB3.out.trans hB4)
      clear hI4 hB4 hK4
      have W3 := Lib.hid (writeByte_any w.heap.size w.heap.size _ 10 w4 HI4.out (by rw [Lib.byteCells_length, List.length_append, List.length_append, List.length_replicate, bl_size]; omega) HB4.out.size)
      go_wp2_with fail
      refine W3.out.mono ?_
      rintro e w5 ⟨rfl, hI5, hB5, hK5⟩
      have HI5 : Hid (Lib.IsBuilderF 76 5 w.heap.size w.heap.size (Lib.byteCells (writeL (rs.take (k + 1)))) w5) := by
        rw [← Lib.byteCells_append] at hI5
        have e : writeL (rs.take (k + 1)) = ((writeL (rs.take k) ++ List.replicate p 32) ++ rt.data.toList) ++ [10] := by rw [HLW.out]; simp
        rw [e]
        exact Or.inr hI5
      have HB5 := Lib.hid (HB4.out.trans hB5)
      clear hI5 hB5 hK5
      go_wp2_with fail
      go_roundw
      case rel => exact ⟨k + 1, by omega, by go_num, HI5.out, HB5.out⟩
      case measure => simp [intOf]; omega
    · obtain rfl : k = rs.length := by omega
      have hta : rs.take rs.length = rs := List.take_length
      have S := Tryd.Builder_String_any_k w.heap.size w.heap.size (writeL (rs.take rs.length)) wr hi.out hb.out.size
      rw [hta] at S
      have HS := Lib.hid S
      clear hi S
      go_wp2_with fail
      refine HS.out.mono ?_
      rintro e w2 ⟨rfl, _, hB, _⟩
      have HBB := Lib.hid (hb.out.trans hB)
      clear hB
      go_wp2_with fail
      go_ret
      exact ⟨rfl, HBB.out⟩
end Go.Proofs.YtnggbhpnpomfjaaDoor.Rw
