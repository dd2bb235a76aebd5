/- Walk: the document's Write: the text of any rows. Conditions: the text is no longer than 10^11 bytes, and no more than 10^6 rows. -/
import Derived.Test.YtnggbhpnpomfjaaDoorRwWrite
import Derived.Test.YtnggbhpnpomfjaaDoorUtREnc
import Derived.Lib.AppendStr
set_option linter.unusedVariables false
namespace Go.Proofs.YtnggbhpnpomfjaaDoor.Rw
open Go.RowKit Bl
def BytesAt (w : World) (l : List UInt8) (row : Value) (wr : World) : Prop := wr.ownsRow w.heap.size 5 1 row l.length (Lib.byteCells l) ∧ Below w.heap.size w wr
theorem append_b {w : World} {ops : Array Oper} {rest : List Oper} {o : Oper} {a : Act} {Q : Exit → Act → World → Prop} (hgd : o.guard = none) (s x : Operand) (ho : o.op = .call { callee := .builtin .append, args := #[s, x], argTypes := #[74, 74] })
    (base : Nat) (v : Value) (l : List UInt8) (hs : a.eval s = v) (hown : w.ownsRow base 5 1 v l.length (Lib.byteCells l)) (c : UInt8) (cc : Int) (hc : Lib.byteCells [c] = [.int .u8 cc]) (m : List UInt8) (hm : m = l ++ [c]) (hx : a.eval x = .slice (some ⟨w.heap.size, 0, none⟩) 1 1) (hn : l.length ≤ 100000000000) (hb : base ≤ w.heap.size)
    (h : ∀ v' w', w'.ownsRow base 5 1 v' m.length (Lib.byteCells m) → (w.alloc (.cells #[.int .u8 cc] 5)).grownBy w' v.ownBlock → wpList Tryd.prog ops Q rest (a.put o.dst v') w') : wpList Tryd.prog ops Q (o :: rest) a (w.alloc (.cells #[.int .u8 cc] 5)) := by
  obtain ⟨i0, hi, hz0, hz1, hz2⟩ := info_parts infoByte
  refine wpList_append_own _ hgd s x 74 ho base 5 i0 (.int .u8 0) 1 1 Tryd.underlying74 hi hz0 hz1 hz2 rfl (by decide) v l.length (Lib.byteCells l) hs (bl_own_below hown ((Below.refl _ _).alloc (Nat.le_refl _) _)) ⟨w.heap.size, 0, none⟩ 1 1 [.int .u8 cc] hx rfl ?_ ?_ (by unfold maxLen; omega) (by omega) (by simp; omega) (fun v' w' h1 h2 _ => h v' w' ?_ h2)
  · intro j u hj
    match j, hj with
    | 0, hj => simp at hj; subst hj; simp [Addr.add]
    | (j + 1), hj => simp at hj
  · intro u hu; simp at hu; subst hu; rfl
  · rw [hm, Lib.byteCells_append, hc, List.length_append]; exact h1
theorem append_s {w : World} {ops : Array Oper} {rest : List Oper} {o : Oper} {a : Act} {Q : Exit → Act → World → Prop} (hgd : o.guard = none) (s x : Operand) (ho : o.op = .call { callee := .builtin .append, args := #[s, x], argTypes := #[74, 9] })
    (base : Nat) (v : Value) (l : List UInt8) (hs : a.eval s = v) (hown : w.ownsRow base 5 1 v l.length (Lib.byteCells l)) (str : ByteArray) (hx : a.eval x = .string str) (m : List UInt8) (hm : m = l ++ str.data.toList) (hn : l.length + str.size ≤ 100000000000) (hb : base ≤ w.heap.size)
    (h : ∀ v' w', w'.ownsRow base 5 1 v' m.length (Lib.byteCells m) → w.grownBy w' v.ownBlock → wpList Tryd.prog ops Q rest (a.put o.dst v') w') : wpList Tryd.prog ops Q (o :: rest) a w := by
  obtain ⟨i0, hi, hz0, hz1, hz2⟩ := info_parts infoByte
  refine Lib.wpList_append_own_string _ hgd s x 74 9 ho base 5 i0 Tryd.underlying74 Tryd.underlying9 hi hz0 hz1 hz2 v l.length _ hs hown str hx (by unfold maxLen; omega) (by omega) hb (fun v' w' h1 h2 _ => h v' w' ?_ h2)
  rw [hm, Lib.byteCells_append, ← strCells_bytes, List.length_append, bl_size]; exact h1
set_option maxRecDepth 100000 in
set_option maxHeartbeats 3200000 in
theorem rwrite_any (A : Option Addr) (c : Nat) (rs : List Rw) (w : World) (g : Bl.RowsIn w A c rs) (hl : rs.length ≤ 1000000) (hz : (writeL rs).length ≤ 100000000000) :
    Calls Tryd.prog 47 #[.slice A rs.length c] w fun e w' => e = .returned (.string ⟨(writeL rs).toArray⟩) ∧ Below w.heap.size w w' := by
  obtain ⟨i0, hi, hz0, hz1, hz2⟩ := info_parts infoByte
  have G := Lib.hid g
  have H0 : Hid (BytesAt w (writeL (rs.take 0)) (.slice none 0 0) w) := ⟨World.ownsRow_nil w _ _ _, Below.refl _ _⟩
  have HZ : Hid (∀ k, (writeL (rs.take k)).length ≤ 100000000000) := fun k => Nat.le_trans (writeL_take_le rs k) hz
  have HC32 : Hid (Lib.byteCells [32] = [.int .u8 32]) := by show _ = _; rw [byteCells_one]; rfl
  have HC10 : Hid (Lib.byteCells [10] = [.int .u8 10]) := by show _ = _; rw [byteCells_one]; rfl
  clear g hz
  go_enter Tryd.func47, Tryd.ntmps47
  go_wp2_with fail
  go_loopw [3, 4] (fun u v wr => ∃ (k : Nat) (row : Value), k ≤ rs.length ∧ row = u ∧ v = .int .i64 (k : Nat) ∧ Hid (BytesAt w (writeL (rs.take k)) row wr)) (fun _ v _ => rs.length - (intOf v).toNat)
  case atStart => exact ⟨0, _, Nat.zero_le _, rfl, rfl, H0.out⟩
  case round =>
    obtain ⟨k, row, hk, rfl, rfl, hrow⟩ := hrel
    by_cases hlt : k < rs.length
    · have hlt' : (k : Int) < (rs.length : Int) := by omega
      have HG := Lib.hid (G.out.at_ k hlt)
      have HTK := Lib.hid (rw_take hlt)
      have hz1 := HZ.out (k + 1)
      generalize rs.getD k rw0 = r at HG HTK
      obtain ⟨rc, rt, rl⟩ := r
      have hzz : (writeL (rs.take k)).length + (padN ⟨rc, rt, rl⟩ + rt.size + 1) ≤ 100000000000 := by
        rw [HTK.out, writeL_snoc, List.length_append] at hz1
        unfold lineW at hz1
        rw [List.length_append, List.length_append, List.length_replicate, bl_size] at hz1
        simp only [List.length_cons, List.length_nil] at hz1
        omega
      have hpl := padN_le ⟨rc, rt, rl⟩
      have hpad : ((padN ⟨rc, rt, rl⟩ : Nat) : Int) = min (max rc 0) 65536 := by unfold padN; simp only; omega
      have HLW : Hid (writeL (rs.take (k + 1)) = writeL (rs.take k) ++ (List.replicate (padN ⟨rc, rt, rl⟩) 32 ++ rt.data.toList ++ [10])) := by show _ = _; rw [HTK.out, writeL_snoc]; rfl
      generalize padN ⟨rc, rt, rl⟩ = p at hzz hpl hpad HLW
      obtain ⟨l, hl0⟩ : ∃ l, writeL (rs.take k) = l := ⟨_, rfl⟩
      rw [hl0] at hrow hzz HLW
      clear hz1 hl0
      have HR0 : Hid (BytesAt w (l ++ List.replicate 0 32) row wr) := by show BytesAt _ _ _ _; rw [List.replicate_zero, List.append_nil]; exact hrow.out
      clear hrow
      go_wp2_with fail
      go_loopw [3, 5] (fun u v W => ∃ (j : Nat) (row : Value), j ≤ p ∧ row = u ∧ v = .int .i64 (j : Nat) ∧ Hid (BytesAt w (l ++ List.replicate j 32) row W)) (fun _ v _ => p - (intOf v).toNat)
      case atStart => exact ⟨0, _, Nat.zero_le _, rfl, rfl, HR0.out⟩
      case round =>
        obtain ⟨j, row2, hj, rfl, rfl, hr2⟩ := hrel
        obtain ⟨b, off, hA, hbl, hc0, hc1, hc2⟩ := HG.out
        have hbb := hr2.out.2
        have c0 := (hbb.cell (p := ⟨b, off + k * 3, none⟩) hbl).trans hc0
        have c1 := (hbb.cell (p := ⟨b, off + k * 3 + 1, none⟩) hbl).trans hc1
        have HLEN : Hid ((l ++ List.replicate j (32 : UInt8)).length = l.length + j) := by show _ = _; rw [List.length_append, List.length_replicate]
        have hws := hr2.out.2.size
        clear hc0 hc1 hc2 hbb
        subst hA
        by_cases hjp : j < p
        · have h1 : (j : Int) < rc := by omega
          have h2 : (j : Int) < 65536 := by omega
          have HR3 : Hid (l ++ List.replicate (j + 1) (32 : UInt8) = (l ++ List.replicate j 32) ++ [32]) := by show _ = _; rw [List.replicate_succ', List.append_assoc]
          obtain ⟨m1, hm1⟩ : ∃ m, l ++ List.replicate (j + 1) (32 : UInt8) = m := ⟨_, rfl⟩
          have HM1 : Hid (m1 = (l ++ List.replicate j 32) ++ [32]) := by show _ = _; rw [← hm1, HR3.out]
          have HM1' := Lib.hid hm1
          obtain ⟨m0, hm0⟩ : ∃ m, l ++ List.replicate j (32 : UInt8) = m := ⟨_, rfl⟩
          rw [hm0] at hr2 HM1 HLEN
          clear hm1 hm0
          go_wp2_with (at_builtin; refine append_b rfl _ _ rfl w.heap.size row2 m0 rfl hr2.out.1 32 32 HC32.out m1 HM1.out rfl (by rw [HLEN.out]; omega) hws ?_)
          intro v' w2 hown hgrow
          have HS2 : Hid (BytesAt w (l ++ List.replicate (j + 1) 32) v' w2) := by
            rw [HM1'.out]
            exact ⟨hown, (hr2.out.2.alloc hws _).grown hgrow (by simp; omega) (fun g hg => (hr2.out.1.lt g hg).1)⟩
          clear hown hgrow
          go_wp2_with fail
          go_roundw
          case rel => exact ⟨j + 1, v', by omega, rfl, by go_num, HS2.out⟩
          case measure => simp [intOf]; omega
        · obtain rfl : j = p := by omega
          have hsplit : (¬ (j : Int) < rc) ∨ ((j : Int) < rc ∧ ¬ (j : Int) < 65536) := by omega
          have hw2 : l.length + j + rt.size + 1 ≤ 100000000000 := by omega
          have HTX : Hid (writeL (rs.take (k + 1)) = ((l ++ List.replicate j 32) ++ rt.data.toList) ++ [10]) := by show _ = _; rw [HLW.out]; simp
          have HLT : Hid (((l ++ List.replicate j (32 : UInt8)) ++ rt.data.toList).length = l.length + j + rt.size) := by show _ = _; rw [List.length_append, HLEN.out, bl_size]
          obtain ⟨m0, hm0⟩ : ∃ m, l ++ List.replicate j (32 : UInt8) = m := ⟨_, rfl⟩
          rw [hm0] at hr2 HTX HLT HLEN
          obtain ⟨m1, hm1⟩ : ∃ m, m = m0 ++ rt.data.toList := ⟨_, rfl⟩
          rw [← hm1] at HTX HLT
          have HM1 := Lib.hid hm1
          obtain ⟨m2, hm2⟩ : ∃ m, writeL (rs.take (k + 1)) = m := ⟨_, rfl⟩
          have HM2 := Lib.hid hm2
          rw [hm2] at HTX
          clear HLW hpad hm0 hm1 hm2
          rcases hsplit with h1 | ⟨h1, h2⟩
          all_goals
            go_wp2_with (at_builtin; refine append_s rfl _ _ rfl w.heap.size row2 m0 rfl hr2.out.1 rt rfl m1 HM1.out (by rw [HLEN.out]; omega) hws ?_)
            intro v3 w3 hown3 hgrow3
            have HS3 : Hid (BytesAt w m1 v3 w3) := ⟨hown3, hr2.out.2.grown hgrow3 hws (fun g hg => (hr2.out.1.lt g hg).1)⟩
            have hws3 := HS3.out.2.size
            clear hown3 hgrow3
            go_wp2_with (at_builtin; refine append_b rfl _ _ rfl w.heap.size v3 m1 rfl HS3.out.1 10 10 HC10.out m2 HTX.out rfl (by rw [HLT.out]; omega) hws3 ?_)
            intro v4 w4 hown4 hgrow4
            have HS4 : Hid (BytesAt w (writeL (rs.take (k + 1))) v4 w4) := by
              rw [HM2.out]
              exact ⟨hown4, (HS3.out.2.alloc hws3 _).grown hgrow4 (by simp; omega) (fun g hg => (HS3.out.1.lt g hg).1)⟩
            clear hown4 hgrow4
            go_wp2_with fail
            go_roundw
            case rel => exact ⟨k + 1, v4, by omega, rfl, by go_num, HS4.out⟩
            case measure => simp [intOf]; omega
    · obtain rfl : k = rs.length := by omega
      have hta : rs.take rs.length = rs := List.take_length
      rw [hta] at hrow
      have hx := conv_own (writeL rs) hrow.out.1
      obtain ⟨str, hstr⟩ : ∃ x : ByteArray, (⟨(writeL rs).toArray⟩ : ByteArray) = x := ⟨_, rfl⟩
      rw [hstr] at hx
      have HV := Lib.hid hstr
      have HB := Lib.hid hrow.out.2
      clear hrow hta hstr
      go_wp2_with fail
      go_ret
      exact ⟨by rw [HV.out]; rfl, HB.out⟩
end Go.Proofs.YtnggbhpnpomfjaaDoor.Rw
