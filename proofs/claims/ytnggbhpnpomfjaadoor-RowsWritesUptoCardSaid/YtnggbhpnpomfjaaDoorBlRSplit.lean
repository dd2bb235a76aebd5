/- Walk: the document's split: a text's lines. Conditions: the text is no longer than 10^5 bytes. -/
import Derived.Test.YtnggbhpnpomfjaaDoorBlRow
import Derived.Test.YtnggbhpnpomfjaaDoorBlLay
set_option linter.unusedVariables false
namespace Go.Proofs.YtnggbhpnpomfjaaDoor.Bl
open Go.RowKit
theorem bl_str_ext2 {a b : ByteArray} (h : a.data.toList = b.data.toList) : a = b := by
  cases a; cases b
  congr 1
  exact Array.toList_inj.1 h
def SplitAt (w : World) (l : List UInt8) (row : Value) (wr : World) : Prop := wr.ownsRow w.heap.size 9 1 row (splitT l).length (strVs (splitT l)) ∧ Below w.heap.size w wr
theorem splitAt_set {w wr : World} {l : List UInt8} {g n cap : Nat} {cur : Array Value} {x : List UInt8} (hlen : (splitT l).length = n) (hg : w.heap.size ≤ g) (hh : wr.heap[g]? = some (.cells cur 9 (0, 0))) (hn : n ≤ cap) (hm : cap ≤ maxLen) (hc : cur.size = cap) (ht : cur.toList.take n = strVs (splitT l)) (hb : Below w.heap.size w wr) (c : UInt8) (hc10 : c ≠ 10) (s : ByteArray) (hs : s.data.toList = (splitT l).getLastD [] ++ [c]) :
    SplitAt w (l ++ [c]) (.slice (some ⟨g, 0, none⟩) n cap) (wr.setCell ⟨g, n - 1, none⟩ (.string s)) := by
  have hne := splitT_ne l
  have hpos : 0 < n := by rw [← hlen]; exact List.length_pos_iff.2 hne
  have e := splitT_snoc l c
  rw [if_neg hc10] at e
  have hl2 : (splitT (l ++ [c])).length = n := by rw [e, List.length_append, List.length_dropLast, hlen]; simp; omega
  refine ⟨⟨by rw [strVs_len, hl2, Nat.mul_one], Or.inr ⟨g, cap, cur.setIfInBounds (n - 1) (.string s), by rw [hl2], hg, bl_block_set hh _ _, by rw [hl2]; exact hn, hm, by simpa using hc, ?_⟩⟩, hb.setCell (p := ⟨g, n - 1, none⟩) (by simpa using hg) _⟩
  rw [hl2, Nat.mul_one, Array.toList_setIfInBounds, e]
  have h1 : (cur.toList.set (n - 1) (.string s)).take n = (cur.toList.take n).set (n - 1) (.string s) := by rw [List.take_set]
  rw [h1, ht]
  unfold strVs
  rw [List.map_append, List.map_dropLast]
  have hm1 : List.map (fun l : List UInt8 => Value.string ⟨l.toArray⟩) [(splitT l).getLastD [] ++ [c]] = [Value.string s] := by rw [List.map_cons, List.map_nil, ← hs, bl_str]
  rw [hm1]
  generalize Value.string s = v
  have key : ∀ (M : List Value), M.length = n → M.set (n - 1) v = M.dropLast ++ [v] := by
    intro M hM
    apply List.ext_getElem?
    intro i
    rw [List.getElem?_set, List.getElem?_append, List.length_dropLast, hM, List.getElem?_dropLast, hM]
    by_cases h1 : n - 1 = i
    · subst h1; simp; omega
    · by_cases h2 : i < n - 1
      · simp [h1, h2]
      · have : n ≤ i := by omega
        simp [h1, h2, List.getElem?_eq_none (show M.length ≤ i by omega), show ¬ i - (n - 1) = 0 by omega]
  exact key _ (by rw [List.length_map, hlen])
set_option maxRecDepth 100000 in
set_option maxHeartbeats 1600000 in
theorem rsplit_any (s : ByteArray) (w : World) (hm : s.size ≤ 100000) : Calls Tryd.prog 87 #[.string s] w fun e w' => ∃ row, e = .returned row ∧ SplitAt w s.data.toList row w' := by
  have HLN : Hid (s.data.toList.length = s.size) := rfl
  have H0 : Hid (SplitAt w [] (.slice (some ⟨w.heap.size, 0, none⟩) 1 1) (w.alloc (.cells #[.string ⟨#[]⟩] 9))) :=
    ⟨⟨rfl, Or.inr ⟨w.heap.size, 1, #[.string ⟨#[]⟩], rfl, Nat.le_refl _, heap_alloc_new _ _, Nat.le_refl _, by unfold maxLen; omega, rfl, rfl⟩⟩, (Below.refl _ _).alloc (Nat.le_refl _) _⟩
  go_enter Tryd.func87, Tryd.ntmps87
  go_wp2_with fail
  go_loopw [3, 4] (fun u v wr => ∃ (k : Nat) (row : Value), k ≤ s.size ∧ row = u ∧ v = .int .i64 (k : Nat) ∧ Hid (SplitAt w (s.data.toList.take k) row wr)) (fun _ v _ => s.size - (intOf v).toNat)
  case atStart => exact ⟨0, _, Nat.zero_le _, rfl, rfl, H0.out⟩
  case round =>
    obtain ⟨k, row, hk, rfl, rfl, hsp⟩ := hrel
    by_cases hlt : k < s.size
    · have hlt' : (k : Int) < (s.size : Int) := by omega
      have hkl : k < s.data.toList.length := hlt
      obtain ⟨c, hc⟩ : ∃ c, s.data.toList[k] = c := ⟨_, rfl⟩
      have htk : s.data.toList.take (k + 1) = s.data.toList.take k ++ [c] := by rw [List.take_succ_eq_append_getElem hkl, hc]
      have hix : ∀ W, (Instr.index 9 (.string s) (.int .i64 (k : Int))).run Tryd.prog W = .ok (.int .u8 (c.toNat : Int)) W := fun W => by
        rw [run_index_string W 9 s .i64 _ Tryd.underlying9, dif_pos ⟨by omega, by omega⟩]
        have : s[((k : Int)).toNat]'(by omega) = c := by rw [← hc]; simp only [Int.toNat_natCast]; rfl
        rw [this]
      have hn := splitT_len (s.data.toList.take k)
      have hn2 := List.count_le_length (a := (10 : UInt8)) (l := s.data.toList.take k)
      rw [List.length_take] at hn2
      by_cases hc10 : c = 10
      · have hq : ((c.toNat : Int) == 10) = true := by rw [hc10]; rfl
        have HST : Hid (splitT (s.data.toList.take (k + 1)) = splitT (s.data.toList.take k) ++ [[]]) := by show _ = _; rw [htk, splitT_snoc, if_pos hc10]
        generalize c.toNat = cn at hq hix
        clear htk hc hc10
        obtain ⟨n, hnn⟩ : ∃ n, (splitT (s.data.toList.take k)).length = n := ⟨_, rfl⟩
        have hno : n ≤ 1000000 := by omega
        have hown := hsp.out.1
        rw [hnn] at hown
        have HO := Lib.hid hown
        have hws := hsp.out.2.size
        have HNN := Lib.hid hnn
        clear hown hn hnn
        go_wp2_with (at_builtin; refine wpList_append_str rfl _ _ rfl w.heap.size row n (splitT (s.data.toList.take k)) rfl HO.out ⟨#[]⟩ rfl hno hws ?_)
        intro v' w2 hown hgrow
        have HS2 : Hid (SplitAt w (s.data.toList.take (k + 1)) v' w2) := by
          refine ⟨?_, (hsp.out.2.alloc hws _).grown hgrow (by simp; omega) (fun g hg => (HO.out.lt g hg).1)⟩
          rw [HST.out, List.length_append, HNN.out]
          have e : strVs (splitT (s.data.toList.take k) ++ [[]]) = strVs (splitT (s.data.toList.take k)) ++ [.string ⟨#[]⟩] := by simp [strVs]
          rw [e]
          exact hown
        clear hown hgrow
        go_wp2_with fail
        go_roundw
        case rel => exact ⟨k + 1, v', by omega, rfl, by go_num, HS2.out⟩
        case measure => simp [intOf]; omega
      · have hq : ((c.toNat : Int) == 10) = false := by
          rw [beq_eq_false_iff_ne]
          intro h
          exact hc10 (UInt8.toNat_inj.1 (by have : c.toNat = 10 := by omega
                                            rw [this]; rfl))
        have hown := hsp.out.1
        have hne := splitT_ne (s.data.toList.take k)
        obtain ⟨n, hnn⟩ : ∃ n, (splitT (s.data.toList.take k)).length = n := ⟨_, rfl⟩
        have hpos : 0 < n := by rw [← hnn]; exact List.length_pos_iff.2 hne
        rw [hnn] at hown
        rcases hown.2 with ⟨_, h0⟩ | ⟨g, cap, cur, rfl, hge, hh, hnc, hcm, hcs, hct⟩
        · omega
        · obtain ⟨x, hx⟩ : ∃ x : ByteArray, x.data.toList = (splitT (s.data.toList.take k)).getLastD [] := ⟨⟨((splitT (s.data.toList.take k)).getLastD []).toArray⟩, by simp⟩
          have hxz : x.size ≤ 100000 := by
            rw [← bl_size, hx]
            have h1 := List.getLastD_mem_cons (l := splitT (s.data.toList.take k)) (a := [])
            have h2 : ∀ y ∈ splitT (s.data.toList.take k), y.length ≤ (s.data.toList.take k).length := splitT_each _
            rcases List.mem_cons.1 h1 with h3 | h3
            · rw [h3]; exact Nat.zero_le _
            · have := h2 _ h3
              rw [List.length_take] at this
              omega
          have hcell : wr.cell? ⟨g, n - 1, none⟩ = some (.string x) := by
            rw [bl_block_cell hh]
            have e1 : cur.toList[n - 1]? = (strVs (splitT (s.data.toList.take k)))[n - 1]? := by rw [← hct, List.getElem?_take, if_pos (by omega)]
            rw [← Array.getElem?_toList, e1]
            unfold strVs
            rw [List.getElem?_map, ← hnn, ← List.getLast?_eq_getElem?]
            rw [List.getLast?_eq_some_getLast hne]
            simp only [Option.map_some, Option.some.injEq]
            refine bl_str_eq ?_
            rw [hx, List.getLastD_eq_getLast?, List.getLast?_eq_some_getLast hne]
            simp
          have hfr := bl_block_free hh (n - 1)
          have hcI : ((n - 1 : Nat) : Int) = (n : Int) - 1 := by omega
          have hidx : ((n : Int) - 1).toNat = n - 1 := by omega
          have hlt0 : (0 : Int) ≤ (n : Int) - 1 := by omega
          have hlt1 : (n : Int) - 1 < (n : Int) := by omega
          have hwr : IntKind.i64.wrap ((n : Int) - 1) = (n : Int) - 1 := by rw [IntKind.wrap_i64]; omega
          have hwr2 : IntKind.i64.wrap ((k : Int) + 1) = (k : Int) + 1 := by rw [IntKind.wrap_i64]; omega
          have hsl : ∀ W, (Instr.sliceAt 9 (.string s) (some (.int .i64 (k : Int))) (some (.int .i64 ((k : Int) + 1))) none).run Tryd.prog W = .ok (.string ⟨#[c]⟩) W := fun W => by
            rw [run_sliceAt_string W _ _ _ _ _ Tryd.underlying9]
            have hb1 : (Instr.sliceBound (.int .i64 (k : Int)) (k + 1) .sliceB).run Tryd.prog W = .ok k W := run_sliceBound _ .i64 (k : Int) (k + 1) .sliceB (by omega) (by omega)
            have hb2 : (Instr.sliceBound (.int .i64 ((k : Int) + 1)) s.size .sliceAlen).run Tryd.prog W = .ok (k + 1) W := by
              have := run_sliceBound (P := Tryd.prog) W .i64 ((k + 1 : Nat) : Int) s.size .sliceAlen (by omega) (by omega)
              rw [show ((k + 1 : Nat) : Int) = (k : Int) + 1 by omega] at this
              rw [this]; congr 1
            have hex : s.extract k (k + 1) = ⟨#[c]⟩ := by
              refine bl_str_ext2 ?_
              rw [Lib.extract_data, Nat.add_sub_cancel_left, List.drop_eq_getElem_cons hkl, hc]
              rfl
            simp [Instr.slice, run_underlying Tryd.underlying9, Instr.sliceBounds, hb1, hb2, hex]
          have hadd : ¬ (9223372036854775807 < x.size + (⟨#[c]⟩ : ByteArray).size) := by show ¬ (9223372036854775807 < x.size + 1); omega
          have HSET := Lib.hid (splitAt_set (x := []) hnn hge hh hnc hcm (by omega) (by rw [Nat.mul_one] at hct; exact hct) hsp.out.2 c hc10 (x ++ ⟨#[c]⟩) (by rw [cat_data, hx]))
          have HTK := Lib.hid htk
          clear htk hc hc10 hown hne hh hcs hct hx hsp hn hnn
          generalize c.toNat = cn at hq hix
          go_wp2_with fail
          go_region
          go_wp2_with fail
          go_roundw
          case rel => exact ⟨k + 1, _, by omega, rfl, by go_num, by rw [HTK.out]; exact ⟨HSET.out.1, HSET.out.2.drew⟩⟩
          case measure => simp [intOf]; omega
    · obtain rfl : s.size = k := by omega
      have ht : s.data.toList.take s.size = s.data.toList := by rw [← HLN.out]; exact List.take_length
      have HF := Lib.hid hsp.out
      rw [ht] at HF
      clear ht hsp
      obtain ⟨A, cc, rfl, _⟩ := bl_own_len HF.out.1
      go_wp2_with fail
      go_ret
      exact ⟨_, rfl, HF.out⟩
end Go.Proofs.YtnggbhpnpomfjaaDoor.Bl
