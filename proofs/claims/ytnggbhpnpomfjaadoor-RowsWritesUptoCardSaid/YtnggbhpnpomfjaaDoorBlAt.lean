/- Walk: 'at': lines as rows of a column. Conditions: no more than 10^5 lines, none longer than 10^5 bytes, a column from 0 to 1000. -/
import Derived.Test.YtnggbhpnpomfjaaDoorBlRLay
import Derived.Test.YtnggbhpnpomfjaaDoorBlBackPure
set_option linter.unusedVariables false
namespace Go.Proofs.YtnggbhpnpomfjaaDoor.Bl
open Go.RowKit
def rowVs (rs : List Rw) : List Value := rs.flatMap fun r => [.int .i64 r.col, .string r.txt, .int .i64 r.ln]
theorem rowVs_len (rs : List Rw) : (rowVs rs).length = rs.length * 3 := by
  induction rs with
  | nil => rfl
  | cons r rs ih => unfold rowVs at *; simp [List.flatMap_cons, ih]; omega
theorem rowVs_snoc (rs : List Rw) (r : Rw) : rowVs (rs ++ [r]) = rowVs rs ++ [.int .i64 r.col, .string r.txt, .int .i64 r.ln] := by simp [rowVs]
theorem rowVs_append (rs qs : List Rw) : rowVs (rs ++ qs) = rowVs rs ++ rowVs qs := by simp [rowVs]
theorem rowVs_get : ∀ (rs : List Rw) (i : Nat), i < rs.length → (rowVs rs)[i * 3]? = some (.int .i64 (rs.getD i rw0).col) ∧ (rowVs rs)[i * 3 + 1]? = some (.string (rs.getD i rw0).txt) ∧ (rowVs rs)[i * 3 + 2]? = some (.int .i64 (rs.getD i rw0).ln)
  | [], i, h => by simp at h
  | r :: rs, 0, _ => by simp [rowVs]
  | r :: rs, i + 1, h => by
    have ih := rowVs_get rs i (by simpa using h)
    have e : rowVs (r :: rs) = .int .i64 r.col :: .string r.txt :: .int .i64 r.ln :: rowVs rs := by simp [rowVs]
    rw [e, show (i + 1) * 3 = i * 3 + 3 by omega]
    simpa using ih
theorem rowVs_one (rs : List Rw) : ∀ u ∈ rowVs rs, u.oneCell' = true := by
  intro u hu
  unfold rowVs at hu
  rw [List.mem_flatMap] at hu
  obtain ⟨r, _, h⟩ := hu
  simp at h
  rcases h with rfl | rfl | rfl <;> rfl
def AtPost (w : World) (rs : List Rw) (row : Value) (wr : World) : Prop := wr.ownsRow w.heap.size 53 3 row rs.length (rowVs rs) ∧ Below w.heap.size w wr
theorem bl_infoRow : (Tryd.prog.info? 53).map (fun i => (i.zero, i.size, i.bytes)) = some (some (.agg #[.int .i64 0, .string ⟨#[]⟩, .int .i64 0]), 3, 32) := by kernel_rfl
theorem wpList_append_row {w : World} {ops : Array Oper} {rest : List Oper} {o : Oper} {a : Act} {Q : Exit → Act → World → Prop} (hgd : o.guard = none) (s x : Operand) (ho : o.op = .call { callee := .builtin .append, args := #[s, x], argTypes := #[44, 44] })
    (base : Nat) (v : Value) (n : Nat) (rs : List Rw) (hs : a.eval s = v) (hown : w.ownsRow base 53 3 v n (rowVs rs)) (ad : Addr) (m c : Nat) (qs : List Rw) (hx : a.eval x = .slice (some ad) m c) (hq : qs.length = m)
    (hnews : ∀ j u, (rowVs qs)[j]? = some u → w.cell? (ad.add j) = some u) (hn : n ≤ 1000000) (hm : m ≤ 1000000) (hb : base ≤ w.heap.size)
    (h : ∀ v' w', w'.ownsRow base 53 3 v' (n + m) (rowVs (rs ++ qs)) → w.grownBy w' v.ownBlock → wpList Tryd.prog ops Q rest (a.put o.dst v') w') : wpList Tryd.prog ops Q (o :: rest) a w := by
  obtain ⟨i0, hi, hz0, hz1, hz2⟩ := info_parts bl_infoRow
  refine wpList_append_own _ hgd s x 44 ho base 53 i0 (.agg #[.int .i64 0, .string ⟨#[]⟩, .int .i64 0]) 3 32 Tryd.underlying44 hi hz0 hz1 hz2 rfl (by decide) v n (rowVs rs) hs hown ad m c (rowVs qs) hx (by rw [rowVs_len, hq]) hnews (rowVs_one qs) (by unfold maxLen; omega) (by omega) hb (fun v' w' h1 h2 _ => h v' w' (by rw [rowVs_append]; exact h1) h2)
theorem one_cells (w : World) (a : Int) (s : ByteArray) (b : Int) : ∀ j u, (rowVs [⟨a, s, b⟩])[j]? = some u → (w.alloc (.cells #[.int .i64 a, .string s, .int .i64 b] 53)).cell? ((⟨w.heap.size, 0, none⟩ : Addr).add j) = some u := by
  intro j u hj
  have h := bl_block_cell (heap_alloc_new w (.cells #[.int .i64 a, .string s, .int .i64 b] 53)) j
  have e : ((⟨w.heap.size, 0, none⟩ : Addr).add j) = ⟨w.heap.size, j, none⟩ := by unfold Addr.add; split <;> simp_all
  rw [e, h, ← hj, List.getElem?_toArray]
  rfl
theorem slice_from_any (x : ByteArray) (j : Nat) (h : j ≤ x.size) (W : World) : (Instr.sliceAt 9 (.string x) (some (.int .i64 (j : Nat))) none none).run Tryd.prog W = .ok (.string ⟨(x.data.toList.drop j).toArray⟩) W := by
  rw [run_sliceAt_string W _ _ _ _ _ Tryd.underlying9]
  have hb1 : (Instr.sliceBound (.int .i64 (j : Nat)) x.size .sliceB).run Tryd.prog W = .ok j W := run_sliceBound _ .i64 (j : Nat) x.size .sliceB (by omega) (by omega)
  have hex : x.extract j x.size = ⟨(x.data.toList.drop j).toArray⟩ := by
    refine bl_str_ext2 ?_
    rw [Lib.extract_data]
    exact List.take_of_length_le (by rw [List.length_drop, bl_size]; omega)
  simp [Instr.slice, run_underlying Tryd.underlying9, Instr.sliceBounds, hb1, hex]
theorem lns_take (ss : List ByteArray) (k : Nat) : lns (ss.take k) = (lns ss).take k := by unfold lns; rw [List.map_take]
theorem atRows_snoc (col : Int) (K : List (List UInt8)) (x : List UInt8) : atRows col (K ++ [x]) = atRows col K ++ [atRow col K.length x] := by unfold atRows; rw [List.mapIdx_append]; simp
set_option maxRecDepth 100000 in
set_option maxHeartbeats 1600000 in
theorem at_any (A : Option Addr) (c : Nat) (ss : List ByteArray) (col : Int) (w : World) (g : StrsIn w A c ss) (hn : ss.length ≤ 100001) (hz : ∀ s ∈ ss, s.size ≤ 100000) (hc0 : 0 ≤ col) (hc1 : col ≤ 1000) :
    Calls Tryd.prog 54 #[.slice A ss.length c, .int .i64 col] w fun e w' => ∃ row, e = .returned row ∧ AtPost w (atRows col (lns ss)) row w' := by
  have G := Lib.hid g
  have HZ := Lib.hid hz
  have H0 : Hid (AtPost w [] (.slice none 0 0) w) := ⟨World.ownsRow_nil w _ _ _, Below.refl _ _⟩
  clear g hz
  go_enter Tryd.func54, Tryd.ntmps54
  go_wp2_with fail
  go_loopw [5, 11] (fun u v wr => ∃ (k : Nat) (row : Value), k ≤ ss.length ∧ row = u ∧ v = .int .i64 (k : Nat) ∧ Hid (AtPost w (atRows col ((lns ss).take k)) row wr)) (fun _ v _ => ss.length - (intOf v).toNat)
  case atStart => exact ⟨0, _, Nat.zero_le _, rfl, rfl, H0.out⟩
  case round =>
    obtain ⟨k, row, hk, rfl, rfl, hsp⟩ := hrel
    have hlen : (atRows col ((lns ss).take k)).length = k := by rw [atRows_length, List.length_take, lns_length]; omega
    by_cases hlt : k < ss.length
    · have hlt' : (k : Int) < (ss.length : Int) := by omega
      obtain ⟨bk, off, hA, hbl, hcell⟩ := (G.out.below (hsp.out.2)).at_ k hlt
      have hxz : (ss.getD k ByteArray.empty).size ≤ 100000 := HZ.out _ (by rw [List.getD_eq_getElem?_getD, List.getElem?_eq_getElem hlt]; exact List.getElem_mem hlt)
      have HTK : Hid ((lns ss).take (k + 1) = (lns ss).take k ++ [(ss.getD k ByteArray.empty).data.toList]) := by
        show _ = _
        rw [List.take_succ_eq_append_getElem (by rw [lns_length]; exact hlt)]
        congr 2
        rw [← lns_at ss k hlt, List.getD_eq_getElem?_getD, List.getElem?_eq_getElem (by rw [lns_length]; exact hlt)]
        rfl
      generalize ss.getD k ByteArray.empty = x at hcell hxz HTK
      subst hA
      go_wp2_with fail
      go_loop [8] (fun v => ∃ j : Nat, j ≤ x.size ∧ v = .int .i64 (j : Nat) ∧ Hid (∀ i, i < j → x.data.toList[i]? = some 32)) (fun v => x.size - (intOf v).toNat)
      case atStart => exact ⟨0, Nat.zero_le _, rfl, (fun i h => by omega)⟩
      case round =>
        obtain ⟨j, hj, rfl, hbl2⟩ := hrel
        have hcase : (∃ h : j < x.size, x.data.toList[j]'h = 32) ∨ ¬ (∃ h : j < x.size, x.data.toList[j]'h = 32) := Decidable.em _
        rcases hcase with ⟨hjl, hj32⟩ | hno
        · have hjl' : (j : Int) < (x.size : Int) := by omega
          have hix := index_at x j hjl
          rw [hj32] at hix
          have hix2 : ∀ W, (Instr.index 9 (.string x) (.int .i64 (j : Nat))).run Tryd.prog W = .ok (.int .u8 32) W := hix
          have HN : Hid (∀ i, i < j + 1 → x.data.toList[i]? = some 32) := fun i hi2 => by
            rcases Nat.lt_or_ge i j with h1 | h1
            · exact hbl2.out i h1
            · have : i = j := by omega
              subst this
              rw [List.getElem?_eq_getElem hjl, hj32]
          clear hix hj32 hbl2
          go_wp2_with fail
          go_round
          case rel => exact ⟨j + 1, by omega, by go_num, HN.out⟩
          case measure => simp [intOf]; omega
        · have HBJ : Hid (blanks x.data.toList = j) := blanks_step hbl2.out (fun h => hno (by
            obtain ⟨h1, h2⟩ := List.getElem?_eq_some_iff.1 h
            exact ⟨h1, h2⟩))
          have hsl := slice_from_any x j hj
          have hsl2 : ∀ W, (Instr.sliceAt 9 (.string x) (some (.int .i64 (j : Nat))) none none).run Tryd.prog W = .ok (.string ⟨(x.data.toList.drop j).toArray⟩) W := hsl
          obtain ⟨y, hy⟩ : ∃ y : ByteArray, (⟨(x.data.toList.drop j).toArray⟩ : ByteArray) = y := ⟨_, rfl⟩
          rw [hy] at hsl2
          have HRW : Hid (atRow col k x.data.toList = ⟨col + (j : Nat), y, (k : Int) + 1⟩) := by
            show _ = _
            unfold atRow
            rw [HBJ.out, hy]
          have HAT : Hid (atRows col ((lns ss).take (k + 1)) = atRows col ((lns ss).take k) ++ [⟨col + (j : Nat), y, (k : Int) + 1⟩]) := by
            show _ = _
            rw [HTK.out, atRows_snoc, ← HRW.out]
            congr 3
            rw [List.length_take, lns_length]; omega
          have hown := hsp.out.1
          rw [hlen] at hown
          have HO := Lib.hid hown
          have hws := hsp.out.2.size
          have HLEN := Lib.hid hlen
          have hkn : k ≤ 1000000 := by omega
          clear hown hlen hsl hy HRW HBJ HTK hbl2
          by_cases hjx : j < x.size
          · obtain ⟨cj, hcj⟩ : ∃ c, x.data.toList[j]'hjx = c := ⟨_, rfl⟩
            have hcj32 : cj ≠ 32 := fun e => hno ⟨hjx, by rw [hcj, e]⟩
            have hixj := index_at x j hjx
            rw [hcj] at hixj
            have hjx' : (j : Int) < (x.size : Int) := by omega
            have hixj2 : ∀ W, (Instr.index 9 (.string x) (.int .i64 (j : Nat))).run Tryd.prog W = .ok (.int .u8 (cj.toNat : Int)) W := hixj
            have hcb2 := byte_eq cj 32
            have hq32 : ((cj.toNat : Int) == 32) = false := by
              have : (((32 : UInt8).toNat : Nat) : Int) = 32 := rfl
              rw [this, decide_eq_false hcj32] at hcb2
              exact hcb2
            clear hixj hcj hcb2 hno hcj32
            go_wp2_with (at_builtin; refine wpList_append_row rfl _ _ rfl w.heap.size row k (atRows col ((lns ss).take k)) rfl (bl_own_below HO.out ((Below.refl _ _).alloc (Nat.le_refl _) _)) ⟨wr.heap.size, 0, none⟩ 1 1 [⟨col + (j : Nat), y, (k : Int) + 1⟩] rfl rfl (one_cells _ _ _ _) hkn (by omega) (by simp; omega) ?_)
            intro v' w2 hown hgrow
            have HS2 : Hid (AtPost w (atRows col ((lns ss).take (k + 1))) v' w2) := by
              refine ⟨?_, (hsp.out.2.alloc hws _).grown hgrow (by simp; omega) (fun g hg => (HO.out.lt g hg).1)⟩
              rw [HAT.out, List.length_append, HLEN.out]
              exact hown
            clear hown hgrow
            go_wp2_with fail
            go_roundw
            case rel => exact ⟨k + 1, v', by omega, rfl, by go_num, HS2.out⟩
            case measure => simp [intOf]; omega
          · obtain rfl : j = x.size := by omega
            go_wp2_with (at_builtin; refine wpList_append_row rfl _ _ rfl w.heap.size row k (atRows col ((lns ss).take k)) rfl (bl_own_below HO.out ((Below.refl _ _).alloc (Nat.le_refl _) _)) ⟨wr.heap.size, 0, none⟩ 1 1 [⟨col + (x.size : Nat), y, (k : Int) + 1⟩] rfl rfl (one_cells _ _ _ _) hkn (by omega) (by simp; omega) ?_)
            intro v' w2 hown hgrow
            have HS2 : Hid (AtPost w (atRows col ((lns ss).take (k + 1))) v' w2) := by
              refine ⟨?_, (hsp.out.2.alloc hws _).grown hgrow (by simp; omega) (fun g hg => (HO.out.lt g hg).1)⟩
              rw [HAT.out, List.length_append, HLEN.out]
              exact hown
            clear hown hgrow
            go_wp2_with fail
            go_roundw
            case rel => exact ⟨k + 1, v', by omega, rfl, by go_num, HS2.out⟩
            case measure => simp [intOf]; omega
    · obtain rfl : ss.length = k := by omega
      have ht : (lns ss).take ss.length = lns ss := by rw [← lns_length ss]; exact List.take_length
      have HF := Lib.hid hsp.out
      rw [ht] at HF
      clear ht hsp
      obtain ⟨A, cc, rfl, _⟩ := bl_own_len HF.out.1
      go_wp2_with fail
      go_ret
      exact ⟨_, rfl, HF.out⟩
end Go.Proofs.YtnggbhpnpomfjaaDoor.Bl
