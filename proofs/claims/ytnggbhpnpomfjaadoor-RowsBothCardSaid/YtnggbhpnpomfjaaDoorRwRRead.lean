/- Walk: the document's Read: a text's rows, or its fault. Conditions: none. -/
import Derived.Test.YtnggbhpnpomfjaaDoorRwRRow
set_option linter.unusedVariables false
namespace Go.Proofs.YtnggbhpnpomfjaaDoor.Rw
open Go.RowKit Bl
theorem tab_head (l : List UInt8) : Lib.hasPrefix l [9] = (!emptyB l && decide (l[0]? = some 9)) := by
  rw [prefix_nine]
  cases l with
  | nil => rfl
  | cons c t =>
    by_cases h : c = 9
    · subst h; rfl
    · simp [h]
theorem bad_any (x : List UInt8) (b : Bool) (hb : b = !decide ((walkL printB x).2 = x.length)) : (b || x.any (· == 13)) = badN x := by
  unfold badN
  rw [← hb]
  congr 1
  have h := any_index x
  by_cases hi : Lib.indexByte x 13 < 0
  · rw [decide_eq_true hi] at h
    rw [decide_eq_false (by omega)]
    cases ha : x.any (· == 13) with
    | false => rfl
    | true => rw [ha] at h; cases h
  · rw [decide_eq_false hi] at h
    rw [decide_eq_true (by omega)]
    cases ha : x.any (· == 13) with
    | true => rfl
    | false => rw [ha] at h; cases h
set_option maxRecDepth 100000 in
set_option maxHeartbeats 3200000 in
theorem rread_any (s : ByteArray) (w : World) : Calls Tryd.prog 35 #[.string s] w (ReadPost s.data.toList w) := by
  have HK0 := Lib.hid (Kept.first w 33 #[.int .i64 0, .int .i64 0])
  by_cases hm : s.size ≤ 65536
  case neg =>
    have HM : Hid (65536 < s.data.toList.length) := by show _ < _; rw [bl_size]; omega
    go_enter Tryd.func35, Tryd.ntmps35
    go_wp2_with (refine wpList_store_row rfl 33 _ _ rfl w.heap.size #[.int .i64 5, .int .i64 0] rfl rfl 33 _ HK0.out.1 (by kernel_rfl) rfl (two_one _ _) ?_)
    have HZ := HK0.out.set #[.int .i64 5, .int .i64 0]
    have z0 := HZ.cell 0
    have z1 := HZ.cell 1
    exact bodyPost_ret (v := .tuple #[.slice none 0 0, .agg #[.int .i64 5, .int .i64 0]]) (by simp [results, Tryd.results35, go_sem, z0, z1]) rfl ⟨HZ.2, Or.inl ⟨HM.out, rfl⟩⟩
  case pos =>
    have HM : Hid (s.data.toList.length ≤ 65536) := by show _ ≤ _; rw [bl_size]; exact hm
    have LN := Lib.hid (fun W => rlines_any s W (by omega))
    go_enter Tryd.func35, Tryd.ntmps35
    go_wp2_with fail
    refine (LN.out _).mono ?_
    rintro e w1 ⟨rowL, rfl, hown, hb1⟩
    have HK1 := Lib.hid (HK0.out.below hb1)
    have hll := linesL_len s.data.toList
    have hle := linesL_each s.data.toList
    rw [bl_size] at hll hle
    obtain ⟨L, hL⟩ : ∃ L, linesL s.data.toList = L := ⟨_, rfl⟩
    rw [hL] at hown hll hle
    have HL := Lib.hid hL
    obtain ⟨A, c, rfl, hcap⟩ := bl_own_len hown
    have HG1 := Lib.hid (strs_own hown rfl (Nat.le_refl _))
    rw [List.take_length] at HG1
    have HLE := Lib.hid hle
    clear hown hb1 hle
    have H0 : Hid (AtPost w1 (rowsN (L.take 0)) (.slice none 0 0) w1) := ⟨World.ownsRow_nil w1 _ _ _, Below.refl _ _⟩
    go_wp2_with fail
    go_loopw [4, 6] (fun u v wr => ∃ (k : Nat) (row : Value), k ≤ L.length ∧ row = u ∧ v = .int .i64 (k : Nat) ∧ Hid (AtPost w1 (rowsN (L.take k)) row wr) ∧ Hid (∀ j, j < k → faultN (L.getD j []) = 0)) (fun _ v _ => L.length - (intOf v).toNat)
    case atStart => exact ⟨0, _, Nat.zero_le _, rfl, rfl, H0.out, fun j h => by omega⟩
    case round =>
      obtain ⟨k, row, hk, rfl, rfl, hsp, hno⟩ := hrel
      have HKr := Lib.hid (HK1.out.below hsp.out.2)
      by_cases hlt : k < L.length
      · have hlt' : (k : Int) < (L.length : Int) := by omega
        obtain ⟨bk, off, hA, hbl, hc⟩ := (HG1.out.below hsp.out.2).at_ k (by simpa using hlt)
        obtain ⟨x, hx⟩ : ∃ x : ByteArray, x = ⟨(L.getD k []).toArray⟩ := ⟨_, rfl⟩
        have hxd : x.data.toList = L.getD k [] := by rw [hx]
        have hc2 : wr.cell? ⟨bk, off + k, none⟩ = some (.string x) := by rw [hc, hx]; simp [List.getD_eq_getElem?_getD, hlt]
        have hxz : x.size ≤ 65536 := by
          have h1 := HLE.out x.data.toList (by rw [hxd, List.getD_eq_getElem?_getD, List.getElem?_eq_getElem hlt]; exact List.getElem_mem hlt)
          rw [bl_size] at h1
          omega
        have HXD := Lib.hid hxd
        have HTK : Hid (L.take (k + 1) = L.take k ++ [x.data.toList]) := by show _ = _; rw [List.take_succ_eq_append_getElem hlt, hxd]; simp [List.getD_eq_getElem?_getD, hlt]
        have CK := Lib.hid (fun W => rcheck_text x W (by omega))
        have hlen : (rowsN (L.take k)).length = k := by rw [rowsN_len, List.length_take]; omega
        have hown := hsp.out.1
        rw [hlen] at hown
        have HO := Lib.hid hown
        have hws := hsp.out.2.size
        have HLEN := Lib.hid hlen
        clear hc hx hxd hown hlen
        subst hA
        have hk1w : IntKind.i64.wrap ((k : Int) + 1) = (k : Int) + 1 := by rw [IntKind.wrap_i64]; omega
        obtain ⟨fx, fy, b0, hfv, hbx, hb0⟩ : ∃ (fx fy : Int) (b0 : Bool), faultV x.data.toList (walkL printB x.data.toList).2 = .agg #[.int .i64 fx, .int .i64 fy] ∧ (fx != 0) = b0 ∧ b0 = !decide ((walkL printB x.data.toList).2 = x.data.toList.length) := by
          rcases fault_check x.data.toList with ⟨hk, hv⟩ | ⟨hk, k, hv⟩
          · exact ⟨0, 0, false, hv, rfl, by rw [decide_eq_true hk]; rfl⟩
          · exact ⟨8, (k : Nat), true, hv, rfl, by rw [decide_eq_false hk]; rfl⟩
        rw [hfv] at CK
        have HB := Lib.hid (bad_any x.data.toList b0 hb0)
        have RR := Lib.hid (fun W => rrow_any x ((k : Int) + 1) W (by omega))
        clear hfv hb0
        go_wp2_with fail
        refine (CK.out _).mono ?_
        rintro e w2 ⟨rfl, hb2⟩
        have HF0 := Lib.hid (Kept.first w2 33 #[.int .i64 0, .int .i64 0])
        have HF1 := Lib.hid (HF0.out.set #[.int .i64 fx, .int .i64 fy])
        have HK2 := Lib.hid ((HKr.out.below hb2).below HF1.out.2)
        have HO2 := Lib.hid (bl_own_below (bl_own_below HO.out hb2) HF1.out.2)
        have HB2 := Lib.hid ((hsp.out.2.trans (hb2.mono hws)).trans (HF1.out.2.mono (Nat.le_trans hws hb2.size)))
        have hc3 : ((w2.alloc (.cells #[.int .i64 0, .int .i64 0] 33)).setRow w2.heap.size #[.int .i64 fx, .int .i64 fy]).cell? ⟨bk, off + k, none⟩ = some (.string x) := ((hb2.trans (HF1.out.2.mono hb2.size)).cell (p := ⟨bk, off + k, none⟩) hbl).trans hc2
        have p0 := HF1.out.cell 0
        have p1 := HF1.out.cell 1
        have hbl2 : bk < ((w2.alloc (.cells #[.int .i64 0, .int .i64 0] 33)).setRow w2.heap.size #[.int .i64 fx, .int .i64 fy]).heap.size := Nat.lt_of_lt_of_le hbl (Nat.le_trans hb2.size HF1.out.2.size)
        clear hb2 hc2
        go_wp2_with (refine wpList_store_row rfl 33 _ _ rfl w2.heap.size #[.int .i64 fx, .int .i64 fy] rfl rfl 33 _ HF0.out.1 (by kernel_rfl) rfl (two_one _ _) ?_)
        generalize ((w2.alloc _).setRow _ _) = w3 at HK2 HO2 HB2 hc3 p0 p1 hbl2 ⊢
        go_loop [8, 9] (fun u v => ∃ (m : Nat) (d : Bool), m ≤ x.size ∧ u = .bool d ∧ v = .int .i64 (m : Nat) ∧ Hid (d = (b0 || (x.data.toList.take m).any (· == 13)))) (fun _ v => x.size - (intOf v).toNat)
        case atStart => exact ⟨0, b0, Nat.zero_le _, by simp [hbx], rfl, by simp [Hid]⟩
        case round =>
          obtain ⟨m, d, hm2, rfl, rfl, hd⟩ := hrel
          by_cases hms : m < x.size
          · have hms' : (m : Int) < (x.size : Int) := by omega
            obtain ⟨ck, hck⟩ : ∃ c, x.data.toList[m]'hms = c := ⟨_, rfl⟩
            have hixk := index_at x m hms
            rw [hck] at hixk
            have hixk2 : ∀ W, (Instr.index 9 (.string x) (.int .i64 (m : Nat))).run Tryd.prog W = .ok (.int .u8 (ck.toNat : Int)) W := hixk
            have HTK2 : Hid (x.data.toList.take (m + 1) = x.data.toList.take m ++ [ck]) := by show _ = _; rw [List.take_succ_eq_append_getElem hms, hck]
            have hcb := byte_eq ck 13
            clear hixk hck
            cases d with
            | true =>
              have HD : Hid (true = (b0 || (x.data.toList.take (m + 1)).any (· == 13))) := by show _ = _; rw [HTK2.out, List.any_append, ← Bool.or_assoc, ← hd.out]; rfl
              clear hd hcb
              go_wp2_with fail
              go_round
              case rel => exact ⟨m + 1, _, by omega, rfl, by go_num, HD.out⟩
              case measure => simp [intOf]; omega
            | false =>
              obtain ⟨q, hq⟩ : ∃ q, ((ck.toNat : Int) == 13) = q := ⟨_, rfl⟩
              have HD : Hid (q = (b0 || (x.data.toList.take (m + 1)).any (· == 13))) := by
                show _ = _
                have h13 : (((13 : UInt8).toNat : Nat) : Int) = 13 := rfl
                rw [h13, hq] at hcb
                rw [HTK2.out, List.any_append, ← Bool.or_assoc, ← hd.out, hcb]
                simp
                rfl
              clear hd hcb
              go_wp2_with fail
              go_round
              case rel => exact ⟨m + 1, _, by omega, rfl, by go_num, HD.out⟩
              case measure => simp [intOf]; omega
          · obtain rfl : m = x.size := by omega
            have HBD : Hid (badN x.data.toList = d) := by
              have h0 := hd.out
              rw [show x.data.toList.take x.size = x.data.toList from List.take_length, HB.out] at h0
              exact h0.symm
            clear hd
            cases d with
            | true =>
              have HF : Hid (faultN x.data.toList = 8) := by show _ = _; unfold faultN; rw [HBD.out]; rfl
              have HKX := HK2
              go_wp2_with (refine wpList_store_row rfl 33 _ _ rfl w.heap.size #[.int .i64 8, .int .i64 ((k : Int) + 1)] rfl rfl 33 _ HKX.out.1 (by kernel_rfl) rfl (two_one _ _) ?_)
              have HZ := HKX.out.set #[.int .i64 8, .int .i64 ((k : Int) + 1)]
              have z0 := HZ.cell 0
              have z1 := HZ.cell 1
              try rw [Exit.noGoto_ret]
              refine bodyPost_ret (v := .tuple #[.slice none 0 0, .agg #[.int .i64 8, .int .i64 ((k : Int) + 1)]]) (by simp [results, Tryd.results35, go_sem, z0, z1]) rfl ⟨HZ.2, Or.inr (Or.inl ⟨HM.out, k, by rw [HL.out]; exact hlt, ?_, ?_, ?_⟩)⟩
              · intro j hj; unfold lineN; rw [HL.out]; exact hno.out j hj
              · unfold lineN; rw [HL.out, ← HXD.out, HF.out]; decide
              · unfold lineN; rw [HL.out, ← HXD.out, HF.out]
            | false =>
              obtain ⟨y, hy⟩ : ∃ t : ByteArray, t = ⟨(textN x.data.toList).toArray⟩ := ⟨_, rfl⟩
              have hyd : y.data.toList = textN x.data.toList := by rw [hy]
              rw [← hy] at RR
              have HRW : Hid (rowN k x.data.toList = ⟨(blanks x.data.toList : Nat), y, (k : Int) + 1⟩) := by show _ = _; unfold rowN; rw [hy]
              have HAT : Hid (rowsN (L.take (k + 1)) = rowsN (L.take k) ++ [⟨(blanks x.data.toList : Nat), y, (k : Int) + 1⟩]) := by
                show _ = _
                rw [HTK.out, rowsN_snoc, ← HRW.out]
                congr 3
                rw [List.length_take]; omega
              have hbz : blanks x.data.toList ≤ 65536 := by have := blanks_le x.data.toList; rw [bl_size] at this; omega
              have HTB : Hid (tabN x.data.toList = (!emptyB y.data.toList && decide (y.data.toList[0]? = some 9))) := by show _ = _; unfold tabN; rw [tab_head, hyd]
              generalize blanks x.data.toList = bb at RR HRW HAT hbz
              have EM := Lib.hid (fun W => rempty_any ⟨(bb : Nat), y, (k : Int) + 1⟩ W)
              simp only at EM
              clear hy hyd HRW
              go_wp2_with fail
              refine (RR.out _).mono ?_
              rintro e w4 ⟨rfl, hb4⟩
              have HR0 := Lib.hid (Kept.first w4 53 #[.int .i64 0, .string ⟨#[]⟩, .int .i64 0])
              have HR1 := Lib.hid (HR0.out.set #[.int .i64 (bb : Nat), .string y, .int .i64 ((k : Int) + 1)])
              have HK5 := Lib.hid ((HK2.out.below hb4).below HR1.out.2)
              have HO5 := Lib.hid (bl_own_below (bl_own_below HO2.out hb4) HR1.out.2)
              have HB5 := Lib.hid ((HB2.out.trans (hb4.mono HB2.out.size)).trans (HR1.out.2.mono (Nat.le_trans HB2.out.size hb4.size)))
              have r0 := HR1.out.cell 0
              have r1 := HR1.out.cell 1
              have r2 := HR1.out.cell 2
              clear hb4
              go_wp2_with (refine wpList_store_row rfl 53 _ _ rfl w4.heap.size #[.int .i64 (bb : Nat), .string y, .int .i64 ((k : Int) + 1)] rfl rfl 53 _ HR0.out.1 (by kernel_rfl) rfl (row_one _ _ _) ?_)
              generalize ((w4.alloc _).setRow _ _) = w5 at HR1 HK5 HO5 HB5 r0 r1 r2 ⊢
              refine (EM.out _).mono ?_
              rintro e w6 ⟨rfl, hb6⟩
              have HR6 := Lib.hid (HR1.out.below hb6)
              have HK6 := Lib.hid (HK5.out.below hb6)
              have HO6 := Lib.hid (bl_own_below HO5.out hb6)
              have HB6 := Lib.hid (HB5.out.trans (hb6.mono HB5.out.size))
              have s0 := HR6.out.cell 0
              have s1 := HR6.out.cell 1
              have s2 := HR6.out.cell 2
              clear hb6 r0 r1 r2
              cases hem : emptyB y.data.toList with
              | true =>
                have HFN : Hid (faultN x.data.toList = 0) := by show _ = _; unfold faultN; rw [HBD.out, HTB.out, hem]; rfl
                clear hem HTB
                have HNX : Hid (∀ j, j < k + 1 → faultN (L.getD j []) = 0) := fun j hj => by
                  rcases Nat.lt_or_ge j k with h1 | h1
                  · exact hno.out j h1
                  · have : j = k := by omega
                    subst this
                    rw [← HXD.out]
                    exact HFN.out
                have hkn : k ≤ 1000000 := by omega
                have hw6 := HB6.out.size
                go_wp2_with (at_builtin; refine wpList_append_row rfl _ _ rfl w1.heap.size row k (rowsN (L.take k)) rfl (bl_own_below HO6.out ((Below.refl _ _).alloc (Nat.le_refl _) _)) ⟨w6.heap.size, 0, none⟩ 1 1 [⟨(bb : Nat), y, (k : Int) + 1⟩] rfl rfl (one_cells _ _ _ _) hkn (by omega) (by simp; omega) ?_)
                intro v' w9 hown hgrow
                have HS2 : Hid (AtPost w1 (rowsN (L.take (k + 1))) v' w9) := by
                  refine ⟨?_, (HB6.out.alloc hw6 _).grown hgrow (by simp; omega) (fun g hg => (HO.out.lt g hg).1)⟩
                  rw [HAT.out, List.length_append, HLEN.out]
                  exact hown
                clear hown hgrow
                go_wp2_with fail
                go_roundw
                case rel => exact ⟨k + 1, v', by omega, rfl, by go_num, HS2.out, HNX.out⟩
                case measure => simp [intOf]; omega
              | false =>
                have hye : y.data.toList ≠ [] := by intro e; rw [e] at hem; cases hem
                obtain ⟨e1, e2, e3, e4, e5⟩ := nonempty_facts hye
                have hx0 := index_zero y e5
                have h9 := byte_eq (y[0]'e5) 9
                have hg : y.data.toList[0]? = some (y[0]'e5) := by
                  have hl : 0 < y.data.toList.length := e5
                  rw [List.getElem?_eq_getElem hl]; rfl
                rw [show (((9 : UInt8).toNat : Nat) : Int) = 9 from rfl] at h9
                obtain ⟨q, hq⟩ : ∃ q, decide ((y[0]'e5) = 9) = q := ⟨_, rfl⟩
                rw [hq] at h9
                have HTQ : Hid (tabN x.data.toList = q) := by
                  show _ = _
                  rw [HTB.out, hem, hg, ← hq]; simp
                generalize (y[0]'e5).toNat = cc at hx0 h9
                clear hem hye hg hq HTB
                cases q with
                | true =>
                  have HF : Hid (faultN x.data.toList = 9) := by show _ = _; unfold faultN; rw [HBD.out, HTQ.out]; rfl
                  have HKX := HK6
                  go_wp2_with (refine wpList_store_row rfl 33 _ _ rfl w.heap.size #[.int .i64 9, .int .i64 ((k : Int) + 1)] rfl rfl 33 _ HKX.out.1 (by kernel_rfl) rfl (two_one _ _) ?_)
                  have HZ := HKX.out.set #[.int .i64 9, .int .i64 ((k : Int) + 1)]
                  have z0 := HZ.cell 0
                  have z1 := HZ.cell 1
                  try rw [Exit.noGoto_ret]
                  refine bodyPost_ret (v := .tuple #[.slice none 0 0, .agg #[.int .i64 9, .int .i64 ((k : Int) + 1)]]) (by simp [results, Tryd.results35, go_sem, z0, z1]) rfl ⟨HZ.2, Or.inr (Or.inl ⟨HM.out, k, by rw [HL.out]; exact hlt, ?_, ?_, ?_⟩)⟩
                  · intro j hj; unfold lineN; rw [HL.out]; exact hno.out j hj
                  · unfold lineN; rw [HL.out, ← HXD.out, HF.out]; decide
                  · unfold lineN; rw [HL.out, ← HXD.out, HF.out]
                | false =>
                  have HFN : Hid (faultN x.data.toList = 0) := by show _ = _; unfold faultN; rw [HBD.out, HTQ.out]; rfl
                  have HNX : Hid (∀ j, j < k + 1 → faultN (L.getD j []) = 0) := fun j hj => by
                    rcases Nat.lt_or_ge j k with h1 | h1
                    · exact hno.out j h1
                    · have : j = k := by omega
                      subst this
                      rw [← HXD.out]
                      exact HFN.out
                  have hkn : k ≤ 1000000 := by omega
                  have hw6 := HB6.out.size
                  go_wp2_with (at_builtin; refine wpList_append_row rfl _ _ rfl w1.heap.size row k (rowsN (L.take k)) rfl (bl_own_below HO6.out ((Below.refl _ _).alloc (Nat.le_refl _) _)) ⟨w6.heap.size, 0, none⟩ 1 1 [⟨(bb : Nat), y, (k : Int) + 1⟩] rfl rfl (one_cells _ _ _ _) hkn (by omega) (by simp; omega) ?_)
                  intro v' w9 hown hgrow
                  have HS2 : Hid (AtPost w1 (rowsN (L.take (k + 1))) v' w9) := by
                    refine ⟨?_, (HB6.out.alloc hw6 _).grown hgrow (by simp; omega) (fun g hg => (HO.out.lt g hg).1)⟩
                    rw [HAT.out, List.length_append, HLEN.out]
                    exact hown
                  clear hown hgrow
                  go_wp2_with fail
                  go_roundw
                  case rel => exact ⟨k + 1, v', by omega, rfl, by go_num, HS2.out, HNX.out⟩
                  case measure => simp [intOf]; omega
      · obtain rfl : k = L.length := by omega
        have hta : L.take L.length = L := List.take_length
        have hown := hsp.out.1
        rw [hta, rowsN_len] at hown
        have HO := Lib.hid hown
        have HNO := Lib.hid hno.out
        obtain ⟨B, d, rfl, hcap2⟩ := bl_own_len hown
        have hbw := HK1.out.2.size
        have hlt1 := bl_block_lt HK1.out.1
        clear hown hta hno hsp
        go_wp2_with (refine wpList_store_row rfl 33 _ _ rfl w.heap.size #[.int .i64 0, .int .i64 0] rfl rfl 33 _ HKr.out.1 (by kernel_rfl) rfl (two_one _ _) ?_)
        have HZ := HKr.out.set #[.int .i64 0, .int .i64 0]
        have z0 := HZ.cell 0
        have z1 := HZ.cell 1
        try rw [Exit.noGoto_ret]
        refine bodyPost_ret (v := .tuple #[.slice B L.length d, .agg #[.int .i64 0, .int .i64 0]]) (by simp [results, Tryd.results35, go_sem, z0, z1]) rfl ⟨HZ.2, Or.inr (Or.inr ⟨HM.out, ?_, .slice B L.length d, rfl, ?_⟩)⟩
        · intro j hj; unfold lineN; rw [HL.out] at hj ⊢; exact HNO.out j hj
        · rw [HL.out]
          exact own_base (own_setRow HO.out (by omega) _) hbw
end Go.Proofs.YtnggbhpnpomfjaaDoor.Rw
