/- Walk: the program's Read: a text's rows, or its fault. Conditions: the decoder's two tables as they are laid. -/
import Derived.Test.YtnggbhpnpomfjaaDoorRwLines
import Derived.Test.YtnggbhpnpomfjaaDoorRwNote
set_option linter.unusedVariables false
namespace Go.Proofs.YtnggbhpnpomfjaaDoor.Rw
open Go.RowKit Bl
def badN (x : List UInt8) : Bool := !(decide ((walkL printB x).2 = x.length)) || decide (0 ≤ Lib.indexByte x 13)
def textN (x : List UInt8) : List UInt8 := Lib.trimRightB (Lib.trimLeftB x 32) 32
def tabN (x : List UInt8) : Bool := Lib.hasPrefix (textN x) [9]
def faultN (x : List UInt8) : Int := if badN x = true then 8 else if tabN x = true then 9 else 0
def rowN (k : Nat) (x : List UInt8) : Rw := ⟨(blanks x : Nat), ⟨(textN x).toArray⟩, (k : Int) + 1⟩
def rowsN (L : List (List UInt8)) : List Rw := L.mapIdx rowN
theorem rowsN_len (L : List (List UInt8)) : (rowsN L).length = L.length := by simp [rowsN]
theorem rowsN_snoc (L : List (List UInt8)) (x : List UInt8) : rowsN (L ++ [x]) = rowsN L ++ [rowN L.length x] := by unfold rowsN; rw [List.mapIdx_append]; simp
def lineN (l : List UInt8) (k : Nat) : List UInt8 := (linesL l).getD k []
def ReadPost (l : List UInt8) (w : World) (e : Ending) (w' : World) : Prop :=
  Below w.heap.size w w' ∧ ((65536 < l.length ∧ e = .returned (.tuple #[.slice none 0 0, .agg #[.int .i64 5, .int .i64 0]])) ∨
    (l.length ≤ 65536 ∧ ∃ k, k < (linesL l).length ∧ (∀ j, j < k → faultN (lineN l j) = 0) ∧ faultN (lineN l k) ≠ 0 ∧ e = .returned (.tuple #[.slice none 0 0, .agg #[.int .i64 (faultN (lineN l k)), .int .i64 ((k : Int) + 1)]])) ∨
    (l.length ≤ 65536 ∧ (∀ j, j < (linesL l).length → faultN (lineN l j) = 0) ∧ ∃ row, e = .returned (.tuple #[row, .agg #[.int .i64 0, .int .i64 0]]) ∧ w'.ownsRow w.heap.size 53 3 row (linesL l).length (rowVs (rowsN (linesL l)))))
theorem linesL_len (l : List UInt8) : (linesL l).length ≤ l.length + 1 := by
  have h := splitT_len l
  have h2 := List.count_le_length (a := (10 : UInt8)) (l := l)
  unfold linesL
  rw [List.length_append, List.length_map, List.length_dropLast]
  split <;> simp <;> omega
theorem cut13_len (x : List UInt8) : (cut13 x).length ≤ x.length := by
  unfold cut13 Lib.trimSuffix
  split
  · rw [List.length_take]; omega
  · exact Nat.le_refl _
theorem linesL_each (l : List UInt8) : ∀ x ∈ linesL l, x.length ≤ l.length := by
  intro x hx
  unfold linesL at hx
  rcases List.mem_append.1 hx with h | h
  · obtain ⟨y, hy, rfl⟩ := List.mem_map.1 h
    exact Nat.le_trans (cut13_len y) (splitT_each l y (List.dropLast_subset _ hy))
  · split at h
    · cases h
    · have : x = (splitT l).getLastD [] := by simpa using h
      rw [this]
      have h := List.getLastD_mem_cons (l := splitT l) (a := [])
      rcases List.mem_cons.1 h with h | h
      · rw [h]; exact Nat.zero_le _
      · exact splitT_each l _ h
theorem own_setRow {w : World} {base b : Nat} {e : TypeId} {size n : Nat} {v : Value} {xs : List Value} (h : w.ownsRow base e size v n xs) (hb : b < base) (ds : Array Value) : (w.setRow b ds).ownsRow base e size v n xs := by
  refine ⟨h.1, ?_⟩
  rcases h.2 with h2 | ⟨g, cap, cur, hv, hge, hh, r⟩
  · exact Or.inl h2
  · refine Or.inr ⟨g, cap, cur, hv, hge, ?_, r⟩
    rw [← hh]
    simp only [World.setRow, Array.getElem?_modify]
    rw [if_neg (by omega)]
theorem trimL_len (x : List UInt8) : (x.length : Int) - ((Lib.trimLeftB x 32).length : Int) = (blanks x : Nat) := by
  rw [trim_drop, List.length_drop]
  have := blanks_le x
  omega
set_option maxRecDepth 100000 in
set_option maxHeartbeats 3200000 in
theorem read_any (s : ByteArray) (w : World) (hT : Tabs w) : Calls Tryd.prog 34 #[.string s] w (ReadPost s.data.toList w) := by
  have HK0 := Lib.hid (Kept.first w 33 #[.int .i64 0, .int .i64 0])
  by_cases hm : s.size ≤ 65536
  case neg =>
    have HM : Hid (65536 < s.data.toList.length) := by show _ < _; rw [bl_size]; omega
    have hmd : decide (65536 < s.size) = true := decide_eq_true (by omega)
    clear hT
    go_enter Tryd.func34, Tryd.ntmps34
    go_wp2_with (refine wpList_store_row rfl 33 _ _ rfl w.heap.size #[.int .i64 5, .int .i64 0] rfl rfl 33 _ HK0.out.1 (by kernel_rfl) rfl (two_one _ _) ?_)
    have HZ := HK0.out.set #[.int .i64 5, .int .i64 0]
    have z0 := HZ.cell 0
    have z1 := HZ.cell 1
    exact bodyPost_ret (v := .tuple #[.slice none 0 0, .agg #[.int .i64 5, .int .i64 0]]) (by simp [results, Tryd.results34, go_sem, z0, z1]) rfl ⟨HZ.2, Or.inl ⟨HM.out, rfl⟩⟩
  case pos =>
    have HM : Hid (s.data.toList.length ≤ 65536) := by show _ ≤ _; rw [bl_size]; exact hm
    have hmd : decide (65536 < s.size) = false := decide_eq_false (by omega)
    have LN := Lib.hid (fun W => lines_any s W (by omega))
    have HT := Lib.hid hT
    clear hT
    go_enter Tryd.func34, Tryd.ntmps34
    go_wp2_with fail
    refine (LN.out _).mono ?_
    rintro e w1 ⟨rowL, rfl, hown, hb1⟩
    have HK1 := Lib.hid (HK0.out.below hb1)
    have hll := linesL_len s.data.toList
    have hle := linesL_each s.data.toList
    rw [bl_size] at hll hle
    obtain ⟨L, hL⟩ : ∃ L, linesL s.data.toList = L := ⟨_, rfl⟩
    rw [hL] at hown hll hle
    have HL := Lib.hid hL
    obtain ⟨A, c, rfl, hcap⟩ := bl_own_len hown
    have HG1 := Lib.hid (strs_own hown rfl (Nat.le_refl _))
    rw [List.take_length] at HG1
    have HLE := Lib.hid hle
    clear hown hb1 hle
    have H0 : Hid (AtPost w1 (rowsN (L.take 0)) (.slice none 0 0) w1) := ⟨World.ownsRow_nil w1 _ _ _, Below.refl _ _⟩
    go_wp2_with fail
    go_loopw [4, 16] (fun u v wr => ∃ (k : Nat) (row : Value), k ≤ L.length ∧ row = u ∧ v = .int .i64 (k : Nat) ∧ Hid (AtPost w1 (rowsN (L.take k)) row wr) ∧ Hid (∀ j, j < k → faultN (L.getD j []) = 0)) (fun _ v _ => L.length - (intOf v).toNat)
    case atStart => exact ⟨0, _, Nat.zero_le _, rfl, rfl, H0.out, fun j h => by omega⟩
    case round =>
      obtain ⟨k, row, hk, rfl, rfl, hsp, hno⟩ := hrel
      have HKr := Lib.hid (HK1.out.below hsp.out.2)
      by_cases hlt : k < L.length
      · have hlt' : (k : Int) < (L.length : Int) := by omega
        obtain ⟨bk, off, hA, hbl, hc⟩ := (HG1.out.below hsp.out.2).at_ k (by simpa using hlt)
        obtain ⟨x, hx⟩ : ∃ x : ByteArray, x = ⟨(L.getD k []).toArray⟩ := ⟨_, rfl⟩
        have hxd : x.data.toList = L.getD k [] := by rw [hx]
        have hc2 : wr.cell? ⟨bk, off + k, none⟩ = some (.string x) := by rw [hc, hx]; simp [List.getD_eq_getElem?_getD, hlt]
        have hxz : x.size ≤ 65536 := by
          have h1 := HLE.out x.data.toList (by rw [hxd, List.getD_eq_getElem?_getD, List.getElem?_eq_getElem hlt]; exact List.getElem_mem hlt)
          rw [bl_size] at h1
          omega
        have HXD := Lib.hid hxd
        have HTK : Hid (L.take (k + 1) = L.take k ++ [x.data.toList]) := by show _ = _; rw [List.take_succ_eq_append_getElem hlt, hxd]; simp [List.getD_eq_getElem?_getD, hlt]
        have CK := Lib.hid (check_text x wr (HT.out.below HKr.out.2) (by omega))
        have hlen : (rowsN (L.take k)).length = k := by rw [rowsN_len, List.length_take]; omega
        clear hc hx hxd
        subst hA
        have hk1w : IntKind.i64.wrap ((k : Int) + 1) = (k : Int) + 1 := by rw [IntKind.wrap_i64]; omega
        rcases fault_check x.data.toList with ⟨hw, hv⟩ | ⟨hw, m, hv⟩
        case inr =>
          rw [hv] at CK
          have HF : Hid (faultN x.data.toList = 8) := by show _ = _; unfold faultN badN; rw [decide_eq_false hw]; rfl
          clear hw hv
          go_wp2_with fail
          refine CK.out.mono ?_
          rintro e w4 ⟨rfl, hb4⟩
          have HK4 := Lib.hid (HKr.out.below hb4)
          clear hb4
          go_wp2_with (refine wpList_store_row rfl 33 _ _ rfl w.heap.size #[.int .i64 8, .int .i64 ((k : Int) + 1)] rfl rfl 33 _ HK4.out.1 (by kernel_rfl) rfl (two_one _ _) ?_)
          have HZ := HK4.out.set #[.int .i64 8, .int .i64 ((k : Int) + 1)]
          have z0 := HZ.cell 0
          have z1 := HZ.cell 1
          try rw [Exit.noGoto_ret]
          refine bodyPost_ret (v := .tuple #[.slice none 0 0, .agg #[.int .i64 8, .int .i64 ((k : Int) + 1)]]) (by simp [results, Tryd.results34, go_sem, z0, z1]) rfl ⟨HZ.2, Or.inr (Or.inl ⟨HM.out, k, by rw [HL.out]; exact hlt, ?_, ?_, ?_⟩)⟩
          · intro j hj; unfold lineN; rw [HL.out]; exact hno.out j hj
          · unfold lineN; rw [HL.out, ← HXD.out, HF.out]; decide
          · unfold lineN; rw [HL.out, ← HXD.out, HF.out]
        case inl =>
          rw [hv] at CK
          obtain ⟨ix, hix⟩ : ∃ i, Lib.indexByte x.data.toList 13 = i := ⟨_, rfl⟩
          have IB : Hid (∀ W, Calls Tryd.prog 68 #[.string x, .int .u8 13] W fun e w' => e = .returned (.int .i64 ix) ∧ W = w') := fun W => by
            rw [← hix]
            exact (Tryd.strings_IndexByte x 13 W).mono fun e w' ⟨h1, h2⟩ => ⟨h1, h2.symm⟩
          by_cases hi : 0 ≤ ix
          · have hid : decide (0 ≤ ix) = true := decide_eq_true hi
            have HF : Hid (faultN x.data.toList = 8) := by show _ = _; unfold faultN badN; rw [hix, hid]; simp
            clear hw hv hix hi
            go_wp2_with fail
            refine CK.out.mono ?_
            rintro e w4 ⟨rfl, hb4⟩
            have HK4 := Lib.hid (HKr.out.below hb4)
            clear hb4
            go_wp2_with fail
            refine (IB.out _).mono ?_
            rintro e w5 ⟨rfl, rfl⟩
            go_wp2_with (refine wpList_store_row rfl 33 _ _ rfl w.heap.size #[.int .i64 8, .int .i64 ((k : Int) + 1)] rfl rfl 33 _ HK4.out.1 (by kernel_rfl) rfl (two_one _ _) ?_)
            have HZ := HK4.out.set #[.int .i64 8, .int .i64 ((k : Int) + 1)]
            have z0 := HZ.cell 0
            have z1 := HZ.cell 1
            try rw [Exit.noGoto_ret]
            refine bodyPost_ret (v := .tuple #[.slice none 0 0, .agg #[.int .i64 8, .int .i64 ((k : Int) + 1)]]) (by simp [results, Tryd.results34, go_sem, z0, z1]) rfl ⟨HZ.2, Or.inr (Or.inl ⟨HM.out, k, by rw [HL.out]; exact hlt, ?_, ?_, ?_⟩)⟩
            · intro j hj; unfold lineN; rw [HL.out]; exact hno.out j hj
            · unfold lineN; rw [HL.out, ← HXD.out, HF.out]; decide
            · unfold lineN; rw [HL.out, ← HXD.out, HF.out]
          · have hid : decide (0 ≤ ix) = false := decide_eq_false hi
            have HBD : Hid (badN x.data.toList = false) := by show _ = _; unfold badN; rw [hix, hid, decide_eq_true hw]; rfl
            obtain ⟨t, ht⟩ : ∃ t : ByteArray, t = ⟨(Lib.trimLeftB x.data.toList 32).toArray⟩ := ⟨_, rfl⟩
            have htd : t.data.toList = Lib.trimLeftB x.data.toList 32 := by rw [ht]
            have TL : Hid (∀ W, Calls Tryd.prog 69 #[.string x, .string ⟨#[32]⟩] W fun e w' => e = .returned (.string t) ∧ W = w') := fun W => by
              rw [ht]
              exact (Tryd.strings_TrimLeft_one x 32 (by decide) W).mono fun e w' ⟨h1, h2⟩ => ⟨h1, h2.symm⟩
            have hsub : (x.size : Int) - (t.size : Int) = (blanks x.data.toList : Nat) := by
              have := trimL_len x.data.toList
              rw [← htd, bl_size, bl_size] at this
              exact this
            have htz : t.size ≤ x.size := by omega
            obtain ⟨y, hy⟩ : ∃ t : ByteArray, t = ⟨(textN x.data.toList).toArray⟩ := ⟨_, rfl⟩
            have hyd : y.data.toList = textN x.data.toList := by rw [hy]
            have TR : Hid (∀ W, Calls Tryd.prog 70 #[.string t, .string ⟨#[32]⟩] W fun e w' => e = .returned (.string y) ∧ W = w') := fun W => by
              have h := (Tryd.strings_TrimRight_one t 32 (by decide) W (by omega)).mono fun e w' ⟨h1, h2⟩ => (⟨h1, h2.symm⟩ : _ ∧ W = w')
              rw [htd] at h
              rw [hy]
              exact h
            have HRW : Hid (rowN k x.data.toList = ⟨(blanks x.data.toList : Nat), y, (k : Int) + 1⟩) := by show _ = _; unfold rowN; rw [hy]
            have HAT : Hid (rowsN (L.take (k + 1)) = rowsN (L.take k) ++ [⟨(blanks x.data.toList : Nat), y, (k : Int) + 1⟩]) := by
              show _ = _
              rw [HTK.out, rowsN_snoc, ← HRW.out]
              congr 3
              rw [List.length_take]; omega
            have hbz : blanks x.data.toList ≤ 65536 := by have := blanks_le x.data.toList; rw [bl_size] at this; omega
            obtain ⟨p, hp⟩ : ∃ b, tabN x.data.toList = b := ⟨_, rfl⟩
            have HP : Hid (∀ W, Calls Tryd.prog 71 #[.string y, .string ⟨#[9]⟩] W fun e w' => e = .returned (.bool p) ∧ W = w') := fun W => by
              refine (Tryd.strings_HasPrefix y ⟨#[9]⟩ W).mono fun e w' ⟨h1, h2⟩ => ⟨?_, h2.symm⟩
              rw [h1, ← hp]
              unfold tabN
              rw [hyd]
            have HFN : Hid (faultN x.data.toList = if p = true then 9 else 0) := by show _ = _; unfold faultN; rw [HBD.out, hp]; rfl
            generalize blanks x.data.toList = bb at hsub HRW HAT hbz
            have hown := hsp.out.1
            rw [hlen] at hown
            have HO := Lib.hid hown
            have hws := hsp.out.2.size
            have HLEN := Lib.hid hlen
            clear hw hv hix hi ht htd hy hyd hp hown hlen HRW
            go_wp2_with fail
            refine CK.out.mono ?_
            rintro e w4 ⟨rfl, hb4⟩
            have HK4 := Lib.hid (HKr.out.below hb4)
            have HO4 := Lib.hid (bl_own_below HO.out hb4)
            have HB4 := Lib.hid (hsp.out.2.trans (hb4.mono hws))
            clear hb4
            go_wp2_with fail
            refine (IB.out _).mono ?_
            rintro e w5 ⟨rfl, rfl⟩
            go_wp2_with fail
            refine (TL.out _).mono ?_
            rintro e w6 ⟨rfl, rfl⟩
            go_wp2_with fail
            refine (TR.out _).mono ?_
            rintro e w7 ⟨rfl, rfl⟩
            have HR0 := Lib.hid (Kept.first w4 53 #[.int .i64 0, .string ⟨#[]⟩, .int .i64 0])
            have HR1 := Lib.hid (HR0.out.set #[.int .i64 (bb : Nat), .string y, .int .i64 ((k : Int) + 1)])
            have HK5 := Lib.hid (HK4.out.below HR1.out.2)
            have HO5 := Lib.hid (bl_own_below HO4.out HR1.out.2)
            have HB5 := Lib.hid (HB4.out.trans (HR1.out.2.mono HB4.out.size))
            have hsubw : IntKind.i64.wrap ((x.size : Int) - (t.size : Int)) = (bb : Nat) := by rw [hsub, IntKind.wrap_i64]; omega
            have r0 := HR1.out.cell 0
            have r1 := HR1.out.cell 1
            have r2 := HR1.out.cell 2
            clear hsub
            go_wp2_with (refine wpList_store_row rfl 53 _ _ rfl w4.heap.size #[.int .i64 (bb : Nat), .string y, .int .i64 ((k : Int) + 1)] rfl rfl 53 _ HR0.out.1 (by kernel_rfl) rfl (row_one _ _ _) ?_)
            refine (HP.out _).mono ?_
            rintro e w8 ⟨rfl, rfl⟩
            cases p with
            | true =>
              have HF : Hid (faultN x.data.toList = 9) := HFN.out
              go_wp2_with (refine wpList_store_row rfl 33 _ _ rfl w.heap.size #[.int .i64 9, .int .i64 ((k : Int) + 1)] rfl rfl 33 _ HK5.out.1 (by kernel_rfl) rfl (two_one _ _) ?_)
              have HZ := HK5.out.set #[.int .i64 9, .int .i64 ((k : Int) + 1)]
              have z0 := HZ.cell 0
              have z1 := HZ.cell 1
              try rw [Exit.noGoto_ret]
              refine bodyPost_ret (v := .tuple #[.slice none 0 0, .agg #[.int .i64 9, .int .i64 ((k : Int) + 1)]]) (by simp [results, Tryd.results34, go_sem, z0, z1]) rfl ⟨HZ.2, Or.inr (Or.inl ⟨HM.out, k, by rw [HL.out]; exact hlt, ?_, ?_, ?_⟩)⟩
              · intro j hj; unfold lineN; rw [HL.out]; exact hno.out j hj
              · unfold lineN; rw [HL.out, ← HXD.out, HF.out]; decide
              · unfold lineN; rw [HL.out, ← HXD.out, HF.out]
            | false =>
              have HNX : Hid (∀ j, j < k + 1 → faultN (L.getD j []) = 0) := fun j hj => by
                rcases Nat.lt_or_ge j k with h1 | h1
                · exact hno.out j h1
                · have : j = k := by omega
                  subst this
                  rw [← HXD.out]
                  exact HFN.out
              have hkn : k ≤ 1000000 := by omega
              have hw5 := HB5.out.size
              generalize ((w4.alloc _).setRow _ _) = w5 at HK5 HO5 HB5 r0 r1 r2 hw5 ⊢
              go_wp2_with (at_builtin; refine wpList_append_row rfl _ _ rfl w1.heap.size row k (rowsN (L.take k)) rfl (bl_own_below HO5.out ((Below.refl _ _).alloc (Nat.le_refl _) _)) ⟨w5.heap.size, 0, none⟩ 1 1 [⟨(bb : Nat), y, (k : Int) + 1⟩] rfl rfl (one_cells _ _ _ _) hkn (by omega) (by simp; omega) ?_)
              intro v' w9 hown hgrow
              have HS2 : Hid (AtPost w1 (rowsN (L.take (k + 1))) v' w9) := by
                refine ⟨?_, (HB5.out.alloc hw5 _).grown hgrow (by simp; omega) (fun g hg => (HO.out.lt g hg).1)⟩
                rw [HAT.out, List.length_append, HLEN.out]
                exact hown
              clear hown hgrow
              go_wp2_with fail
              go_roundw
              case rel => exact ⟨k + 1, v', by omega, rfl, by go_num, HS2.out, HNX.out⟩
              case measure => simp [intOf]; omega
      · obtain rfl : k = L.length := by omega
        have hta : L.take L.length = L := List.take_length
        have hown := hsp.out.1
        rw [hta, rowsN_len] at hown
        have HO := Lib.hid hown
        have HNO := Lib.hid hno.out
        obtain ⟨B, d, rfl, hcap2⟩ := bl_own_len hown
        have hbw := HK1.out.2.size
        have hlt1 := bl_block_lt HK1.out.1
        clear hown hta hno hsp
        go_wp2_with (refine wpList_store_row rfl 33 _ _ rfl w.heap.size #[.int .i64 0, .int .i64 0] rfl rfl 33 _ HKr.out.1 (by kernel_rfl) rfl (two_one _ _) ?_)
        have HZ := HKr.out.set #[.int .i64 0, .int .i64 0]
        have z0 := HZ.cell 0
        have z1 := HZ.cell 1
        try rw [Exit.noGoto_ret]
        refine bodyPost_ret (v := .tuple #[.slice B L.length d, .agg #[.int .i64 0, .int .i64 0]]) (by simp [results, Tryd.results34, go_sem, z0, z1]) rfl ⟨HZ.2, Or.inr (Or.inr ⟨HM.out, ?_, .slice B L.length d, rfl, ?_⟩)⟩
        · intro j hj; unfold lineN; rw [HL.out] at hj ⊢; exact HNO.out j hj
        · rw [HL.out]
          exact own_base (own_setRow HO.out (by omega) _) hbw
end Go.Proofs.YtnggbhpnpomfjaaDoor.Rw
