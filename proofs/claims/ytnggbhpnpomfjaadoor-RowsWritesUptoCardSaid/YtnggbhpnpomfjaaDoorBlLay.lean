/- Walk: the program's Lay: a text's style and its lines, or no. Conditions: the text is shorter than 2^32 bytes; the decoder's two tables as they are laid; the library's limit of a search stands in its variable. -/
import Derived.Test.YtnggbhpnpomfjaaDoorBlAlive
import Derived.Test.YtnggbhpnpomfjaaDoorBlLayPure
import Derived.Test.YtnggbhpnpomfjaaDoorUtRChk
import Derived.WalkMore
set_option linter.unusedVariables false
namespace Go.Proofs.YtnggbhpnpomfjaaDoor.Bl
open Go.RowKit
/-- a line that may not stand in a block -/
def badLine (x : List UInt8) : Bool := Lib.hasSuffix x [32] || Lib.hasPrefix (Lib.trimLeftB x 32) [9]
def headT (l : List UInt8) : List UInt8 := Lib.trimLeftB l 10
def layOk (l : List UInt8) : Bool := flatL (headT l) && decide ((walkL printB l).2 = l.length) && decide (Lib.indexByte l 13 < 0) && (splitT l).all (fun x => !badLine x)
/-- how a block's text ends, and its lines -/
def layC (l : List UInt8) : Int := if (splitT l).getLastD [] ≠ [] then 1 else if (splitT l).dropLast.getLastD [] ≠ [] then 0 else 2
def layL (l : List UInt8) : List (List UInt8) := if (splitT l).getLastD [] ≠ [] then splitT l else (splitT l).dropLast
def LayPost (l : List UInt8) (w : World) (e : Ending) (w' : World) : Prop :=
  Below w.heap.size w w' ∧ ((layOk l = false ∧ e = .returned (.tuple #[.agg #[.bool false, .int .i64 0], .slice none 0 0, .bool false])) ∨
    (layOk l = true ∧ ∃ A c, e = .returned (.tuple #[.agg #[.bool false, .int .i64 (layC l)], .slice A (layL l).length c, .bool true]) ∧ StrsIn w' A c ((layL l).map fun x => (⟨x.toArray⟩ : ByteArray))))
theorem flat_head {s : ByteArray} : flatL s.data.toList = true → s.data.toList ≠ [] := fun h e => by rw [e] at h; cases h
theorem fault_check (l : List UInt8) : ((walkL printB l).2 = l.length ∧ faultV l (walkL printB l).2 = .agg #[.int .i64 0, .int .i64 0]) ∨ ((walkL printB l).2 ≠ l.length ∧ ∃ k : Nat, faultV l (walkL printB l).2 = .agg #[.int .i64 8, .int .i64 (k : Nat)]) := by
  have := (walkL_le printB l.length l (Nat.le_refl _)).1
  unfold faultV
  by_cases h : (walkL printB l).2 < l.length
  · exact Or.inr ⟨by omega, _, by rw [if_pos h]⟩
  · exact Or.inl ⟨by omega, by rw [if_neg h]⟩
theorem splitT_each : ∀ (l : List UInt8), ∀ x ∈ splitT l, x.length ≤ l.length
  | [], x, h => by
    have : x = [] := by simpa [splitT] using h
    subst this; exact Nat.le_refl _
  | c :: t, x, h => by
    have ih := splitT_each t
    have hne := splitT_ne t
    rw [show splitT (c :: t) = if c = 10 then [] :: splitT t else (c :: (splitT t).headD []) :: (splitT t).tail from rfl] at h
    cases hs : splitT t with
    | nil => exact absurd hs hne
    | cons y r =>
      rw [hs] at h ih
      by_cases hc : c = 10
      · rw [if_pos hc] at h
        rcases List.mem_cons.1 h with rfl | h
        · exact Nat.zero_le _
        · have := ih x h; simp; omega
      · rw [if_neg hc] at h
        rcases List.mem_cons.1 h with rfl | h
        · have := ih y (by simp); simp; omega
        · have := ih x (by simp at h; simp [h]); simp; omega
theorem strs_take {w : World} {A : Option Addr} {c : Nat} {ss : List ByteArray} (g : StrsIn w A c ss) (m : Nat) : StrsIn w A c (ss.take m) :=
  ⟨fun i hi => by
    have hi2 : i < ss.length ∧ i < m := by rw [List.length_take] at hi; omega
    obtain ⟨b, off, h1, h2, h3⟩ := g.at_ i hi2.1
    refine ⟨b, off, h1, h2, ?_⟩
    rw [h3]
    simp [List.getD_eq_getElem?_getD, hi2.2], by have := g.cap; rw [List.length_take]; omega⟩
theorem strs_other {w : World} {A : Option Addr} {c : Nat} {ss : List ByteArray} (g : StrsIn w A c ss) {w' : World} (r : Nat) (hr : ∀ b off, A = some ⟨b, off, none⟩ → b ≠ r) (hs : w.heap.size ≤ w'.heap.size) (hk : ∀ k, k ≠ r → w'.heap[k]? = w.heap[k]?) : StrsIn w' A c ss :=
  ⟨fun i hi => by
    obtain ⟨b, off, h1, h2, h3⟩ := g.at_ i hi
    refine ⟨b, off, h1, by omega, ?_⟩
    rw [← h3]
    unfold World.cell?
    rw [hk b (hr b off h1)], g.cap⟩
theorem split_strs (s : ByteArray) : ((Lib.splitB ⟨#[10]⟩ 0 (Lib.countB s ⟨#[10]⟩) s).map (·.data.toList)) = splitT s.data.toList := by
  rw [Lib.splitB_data]
  exact split_lines _
set_option maxRecDepth 100000 in
set_option maxHeartbeats 3200000 in
theorem lay_any (s : ByteArray) (w : World) (hT : Tabs w) (mx : Int) (hS : w.cell? ⟨2, 0, none⟩ = some (.int .i64 mx)) (hS2 : 2 < w.heap.size) (hm : s.size ≤ 100000) : Calls Tryd.prog 50 #[.string s] w (LayPost s.data.toList w) := by
  have HK0 := Lib.hid (Kept.first w 61 #[.bool false, .int .i64 0])
  obtain ⟨tx, htx⟩ : ∃ t : ByteArray, t = ⟨(headT s.data.toList).toArray⟩ := ⟨_, rfl⟩
  have htd : tx.data.toList = headT s.data.toList := by rw [htx]
  have TL : Hid (∀ W, Calls Tryd.prog 69 #[.string s, .string ⟨#[10]⟩] W fun e w' => e = .returned (.string tx) ∧ W = w') := fun W => by
    rw [htx]
    exact (Tryd.strings_TrimLeft_one s 10 (by decide) W).mono fun e w' ⟨h1, h2⟩ => ⟨h1, h2.symm⟩
  obtain ⟨ix, hix⟩ : ∃ i, Lib.indexByte s.data.toList 13 = i := ⟨_, rfl⟩
  have IB : Hid (∀ W, Calls Tryd.prog 68 #[.string s, .int .u8 13] W fun e w' => e = .returned (.int .i64 ix) ∧ W = w') := fun W => by
    rw [← hix]
    exact (Tryd.strings_IndexByte s 13 W).mono fun e w' ⟨h1, h2⟩ => ⟨h1, h2.symm⟩
  have CK := Lib.hid (check_text s _ (hT.below HK0.out.2) (by omega))
  have HOK : Hid (layOk s.data.toList = (flatL tx.data.toList && decide ((walkL printB s.data.toList).2 = s.data.toList.length) && decide (ix < 0) && (splitT s.data.toList).all (fun x => !badLine x))) := by
    show _ = _; unfold layOk; rw [htd, hix]
  have HTD := Lib.hid htd
  clear htx htd hix hT
  by_cases hem : tx.data.toList = []
  · obtain ⟨e1, e2, e3, e4, e5⟩ := empty_facts hem
    have HV : Hid (layOk s.data.toList = false) := by show _ = _; rw [HOK.out, hem]; rfl
    clear hem hS HOK
    go_enter Tryd.func50, Tryd.ntmps50
    go_wp2_with fail
    go_step3
    go_wp2_with fail
    refine (TL.out _).mono ?_
    rintro e w1 ⟨rfl, rfl⟩
    go_wp2_with (refine wpList_store_row rfl 61 _ _ rfl w.heap.size #[.bool false, .int .i64 0] rfl rfl 61 _ HK0.out.1 (by kernel_rfl) rfl (style_one _ _) ?_)
    try rw [Exit.noGoto_ret]
    have HZ := HK0.out.set #[.bool false, .int .i64 0]
    have z0 := HZ.cell 0
    have z1 := HZ.cell 1
    exact bodyPost_ret (v := .tuple #[.agg #[.bool false, .int .i64 0], .slice none 0 0, .bool false]) (by simp [results, Tryd.results50, go_sem, z0, z1]) rfl ⟨HZ.2, Or.inl ⟨HV.out, rfl⟩⟩
  · obtain ⟨e1, e2, e3, e4, e5⟩ := nonempty_facts hem
    have HF := Lib.hid (flat_byte e5)
    have hx0 := index_zero tx e5
    obtain ⟨q, hq⟩ : ∃ q, (((tx[0]'e5).toNat : Int) != 32) = q := ⟨_, rfl⟩
    rw [hq] at HF
    have hq2 : (((tx[0]'e5).toNat : Int) == 32) = !q := by rw [← hq]; simp [bne]
    generalize (tx[0]'e5).toNat = cc at hx0 hq2
    clear hem hq
    cases q with
    | false =>
      simp only [Bool.not_false] at hq2
      have HV : Hid (layOk s.data.toList = false) := by show _ = _; rw [HOK.out, HF.out]; rfl
      clear hS HOK HF
      go_enter Tryd.func50, Tryd.ntmps50
      go_wp2_with fail
      go_step3
      go_wp2_with fail
      refine (TL.out _).mono ?_
      rintro e w1 ⟨rfl, rfl⟩
      go_wp2_with (refine wpList_store_row rfl 61 _ _ rfl w.heap.size #[.bool false, .int .i64 0] rfl rfl 61 _ HK0.out.1 (by kernel_rfl) rfl (style_one _ _) ?_)
      try rw [Exit.noGoto_ret]
      have HZ := HK0.out.set #[.bool false, .int .i64 0]
      have z0 := HZ.cell 0
      have z1 := HZ.cell 1
      exact bodyPost_ret (v := .tuple #[.agg #[.bool false, .int .i64 0], .slice none 0 0, .bool false]) (by simp [results, Tryd.results50, go_sem, z0, z1]) rfl ⟨HZ.2, Or.inl ⟨HV.out, rfl⟩⟩
    | true =>
      simp only [Bool.not_true] at hq2
      rcases fault_check s.data.toList with ⟨hk, hv⟩ | ⟨hk, k, hv⟩
      case inr =>
        rw [hv] at CK
        have HV : Hid (layOk s.data.toList = false) := by show _ = _; rw [HOK.out, decide_eq_false hk, Bool.and_false, Bool.false_and, Bool.false_and]
        clear hk hv hS HOK HF
        go_enter Tryd.func50, Tryd.ntmps50
        go_wp2_with fail
        go_step3
        go_wp2_with fail
        refine (TL.out _).mono ?_
        rintro e w1 ⟨rfl, rfl⟩
        go_wp2_with fail
        refine CK.out.mono ?_
        rintro e w2 ⟨rfl, hb2⟩
        have HK2 := Lib.hid (HK0.out.below hb2)
        clear hb2
        go_wp2_with (refine wpList_store_row rfl 61 _ _ rfl w.heap.size #[.bool false, .int .i64 0] rfl rfl 61 _ HK2.out.1 (by kernel_rfl) rfl (style_one _ _) ?_)
        try rw [Exit.noGoto_ret]
        have HZ := HK2.out.set #[.bool false, .int .i64 0]
        have z0 := HZ.cell 0
        have z1 := HZ.cell 1
        exact bodyPost_ret (v := .tuple #[.agg #[.bool false, .int .i64 0], .slice none 0 0, .bool false]) (by simp [results, Tryd.results50, go_sem, z0, z1]) rfl ⟨HZ.2, Or.inl ⟨HV.out, rfl⟩⟩
      case inl =>
        rw [hv] at CK
        by_cases hi : ix < 0
        case neg =>
          have hid : decide (0 ≤ ix) = true := decide_eq_true (by omega)
          have HV : Hid (layOk s.data.toList = false) := by show _ = _; rw [HOK.out, decide_eq_false hi, Bool.and_false, Bool.false_and]
          clear hk hv hi hS HOK HF
          go_enter Tryd.func50, Tryd.ntmps50
          go_wp2_with fail
          go_step3
          go_wp2_with fail
          refine (TL.out _).mono ?_
          rintro e w1 ⟨rfl, rfl⟩
          go_wp2_with fail
          refine CK.out.mono ?_
          rintro e w2 ⟨rfl, hb2⟩
          have HK2 := Lib.hid (HK0.out.below hb2)
          clear hb2
          go_wp2_with fail
          refine (IB.out _).mono ?_
          rintro e w3 ⟨rfl, rfl⟩
          go_wp2_with (refine wpList_store_row rfl 61 _ _ rfl w.heap.size #[.bool false, .int .i64 0] rfl rfl 61 _ HK2.out.1 (by kernel_rfl) rfl (style_one _ _) ?_)
          try rw [Exit.noGoto_ret]
          have HZ := HK2.out.set #[.bool false, .int .i64 0]
          have z0 := HZ.cell 0
          have z1 := HZ.cell 1
          exact bodyPost_ret (v := .tuple #[.agg #[.bool false, .int .i64 0], .slice none 0 0, .bool false]) (by simp [results, Tryd.results50, go_sem, z0, z1]) rfl ⟨HZ.2, Or.inl ⟨HV.out, rfl⟩⟩
        case pos =>
          have hid : decide (0 ≤ ix) = false := decide_eq_false (by omega)
          have HOK2 : Hid (layOk s.data.toList = (splitT s.data.toList).all (fun x => !badLine x)) := by show _ = _; rw [HOK.out, HF.out, decide_eq_true hk, decide_eq_true hi]; simp
          have HN2 : Hid ((splitT s.data.toList).getLastD [] = [] → 2 ≤ (splitT s.data.toList).length) := fun h => by
            rcases Nat.lt_or_ge (splitT s.data.toList).length 2 with h1 | h1
            · exfalso
              have h2 := splitT_len s.data.toList
              have h3 : 10 ∉ s.data.toList := List.count_eq_zero.1 (by omega)
              rw [splitT_none h3] at h
              have h4 : s.data.toList = [] := by simpa using h
              have h5 := HTD.out
              rw [h4] at h5
              have h6 : tx.data.toList.length = tx.size := rfl
              rw [h5] at h6
              have h7 : tx.size = 0 := h6.symm
              omega
            · exact h1
          clear hk hv hi HOK HF
          go_enter Tryd.func50, Tryd.ntmps50
          go_wp2_with fail
          go_step3
          go_wp2_with fail
          refine (TL.out _).mono ?_
          rintro e w1 ⟨rfl, rfl⟩
          go_wp2_with fail
          refine CK.out.mono ?_
          rintro e w2 ⟨rfl, hb2⟩
          have HK2 := Lib.hid (HK0.out.below hb2)
          clear hb2
          go_wp2_with fail
          refine (IB.out _).mono ?_
          rintro e w3 ⟨rfl, rfl⟩
          go_wp2_with fail
          have hW2 := HK2.out.2
          have sp := Tryd.strings_Split s ⟨#[10]⟩ mx w2 (by omega) ((hW2.cell (p := ⟨2, 0, none⟩) hS2).trans hS) (by show 1 ≤ 1; exact Nat.le_refl _)
          have hL0 := split_strs s
          have hlen := Lib.splitB_all ⟨#[10]⟩ (by show 1 ≤ 1; exact Nat.le_refl _) 0 (Lib.countB s ⟨#[10]⟩) s rfl
          obtain ⟨ss, hss⟩ : ∃ ss, Lib.splitB ⟨#[10]⟩ 0 (Lib.countB s ⟨#[10]⟩) s = ss := ⟨_, rfl⟩
          rw [hss] at sp hL0 hlen
          rw [← hlen] at sp
          clear hlen hss hS
          have SP := Lib.hid sp
          have HL0 := Lib.hid hL0
          have hh := heap_alloc_new w2 (.cells (ss.map Value.string).toArray 9)
          have hcell : ∀ k, k < ss.length → (w2.alloc (.cells (ss.map Value.string).toArray 9)).cell? ⟨w2.heap.size, k, none⟩ = some (.string (ss.getD k ByteArray.empty)) := fun k hk => by
            rw [bl_block_cell hh]
            simp [List.getD_eq_getElem?_getD, hk]
          have HCL := Lib.hid hcell
          have HH := Lib.hid hh
          have HK3 := Lib.hid (HK2.out.below ((Below.refl _ _).alloc (Nat.le_refl _) (.cells (ss.map Value.string).toArray 9)))
          have hn1 : ss.length ≤ s.size + 1 := by
            have h1 := congrArg List.length hL0
            rw [List.length_map, splitT_len] at h1
            have h2 := List.count_le_length (a := (10 : UInt8)) (l := s.data.toList)
            rw [bl_size] at h2
            omega
          have hn0 : 1 ≤ ss.length := by
            have h1 := congrArg List.length hL0
            rw [List.length_map, splitT_len] at h1
            omega
          clear sp hL0 hh hcell hW2
          refine SP.out.mono ?_
          rintro e w4 ⟨rfl, rfl⟩
          generalize w2.alloc (.cells (ss.map Value.string).toArray 9) = w3 at HCL HH HK3 ⊢
          go_wp2_with fail
          go_step3
          go_wp2_with fail
          have HXZ : Hid (∀ (x : ByteArray) (k : Nat), k < ss.length → w3.cell? ⟨w2.heap.size, k, none⟩ = some (.string x) → x.size ≤ 9223372036854775807) := fun x k hk hx => by
            have h1 := HCL.out k hk
            rw [hx] at h1
            have h2 : x = ss.getD k ByteArray.empty := by injection h1 with h1; injection h1
            have h3 := splitT_each s.data.toList x.data.toList (by rw [← HL0.out, h2, List.getD_eq_getElem?_getD, List.getElem?_eq_getElem hk]; exact List.mem_map.2 ⟨ss[k], List.getElem_mem hk, rfl⟩)
            rw [bl_size, bl_size] at h3
            omega
          go_loop [7, 36] (fun v u => ∃ k : Nat, k ≤ ss.length ∧ v = .bool true ∧ u = .int .i64 (k : Nat) ∧ Hid (∀ j, j < k → badLine ((ss.getD j ByteArray.empty).data.toList) = false)) (fun _ u => ss.length - (intOf u).toNat)
          case atStart => exact ⟨0, Nat.zero_le _, rfl, rfl, (fun j h => by omega)⟩
          case round =>
            obtain ⟨k, hk, rfl, rfl, hno⟩ := hrel
            have hget : ∀ j, j < ss.length → (splitT s.data.toList)[j]? = some ((ss.getD j ByteArray.empty).data.toList) := fun j hj => by
              rw [← HL0.out, List.getElem?_map, List.getD_eq_getElem?_getD, List.getElem?_eq_getElem hj]
              rfl
            have HGET := Lib.hid hget
            clear hget
            by_cases hlt : k < ss.length
            · have hlt' : (k : Int) < (ss.length : Int) := by omega
              have hc := HCL.out k hlt
              have HNO : Hid (badLine ((ss.getD k ByteArray.empty).data.toList) = true → layOk s.data.toList = false) := fun h => by
                rw [HOK2.out, List.all_eq_false]
                exact ⟨_, List.mem_of_getElem? (HGET.out k hlt), by rw [h]; simp⟩
              have HNX : Hid (badLine ((ss.getD k ByteArray.empty).data.toList) = false → ∀ j, j < k + 1 → badLine ((ss.getD j ByteArray.empty).data.toList) = false) := fun h j hj => by
                rcases Nat.lt_or_ge j k with h1 | h1
                · exact hno.out j h1
                · have : j = k := by omega
                  subst this; exact h
              generalize ss.getD k ByteArray.empty = x at hc HNO HNX
              obtain ⟨b1, hb1⟩ : ∃ b, Lib.hasSuffix x.data.toList [32] = b := ⟨_, rfl⟩
              have HS1 : Hid (∀ W, Calls Tryd.prog 86 #[.string x, .string ⟨#[32]⟩] W fun e w' => e = .returned (.bool b1) ∧ W = w') := fun W => by
                have hx : x.size ≤ 9223372036854775807 := HXZ.out x k hlt hc
                exact (Tryd.strings_HasSuffix x ⟨#[32]⟩ W hx).mono fun e w' ⟨h1, h2⟩ => ⟨by rw [h1, ← hb1], h2.symm⟩
              obtain ⟨tt, htt⟩ : ∃ t : ByteArray, t = ⟨(Lib.trimLeftB x.data.toList 32).toArray⟩ := ⟨_, rfl⟩
              have TL2 : Hid (∀ W, Calls Tryd.prog 69 #[.string x, .string ⟨#[32]⟩] W fun e w' => e = .returned (.string tt) ∧ W = w') := fun W => by
                rw [htt]
                exact (Tryd.strings_TrimLeft_one x 32 (by decide) W).mono fun e w' ⟨h1, h2⟩ => ⟨h1, h2.symm⟩
              obtain ⟨b2, hb2⟩ : ∃ b, Lib.hasPrefix (Lib.trimLeftB x.data.toList 32) [9] = b := ⟨_, rfl⟩
              have HP2 : Hid (∀ W, Calls Tryd.prog 71 #[.string tt, .string ⟨#[9]⟩] W fun e w' => e = .returned (.bool b2) ∧ W = w') := fun W => by
                refine (Tryd.strings_HasPrefix tt ⟨#[9]⟩ W).mono fun e w' ⟨h1, h2⟩ => ⟨?_, h2.symm⟩
                rw [h1, ← hb2, htt]
              have HBL : Hid (badLine x.data.toList = (b1 || b2)) := by show _ = _; unfold badLine; rw [hb1, hb2]
              clear hb1 hb2 htt hno
              cases b1 with
              | true =>
                have HV := Lib.hid (HNO.out (by rw [HBL.out]; rfl))
                clear HNO HNX HBL HOK2
                go_wp2_with fail
                refine (HS1.out _).mono ?_
                rintro e w5 ⟨rfl, rfl⟩
                go_wp2_with (refine wpList_store_row rfl 61 _ _ rfl w.heap.size #[.bool false, .int .i64 0] rfl rfl 61 _ HK3.out.1 (by kernel_rfl) rfl (style_one _ _) ?_)
                try rw [Exit.noGoto_ret]
                have HZ := HK3.out.set #[.bool false, .int .i64 0]
                have z0 := HZ.cell 0
                have z1 := HZ.cell 1
                exact bodyPost_ret (v := .tuple #[.agg #[.bool false, .int .i64 0], .slice none 0 0, .bool false]) (by simp [results, Tryd.results50, go_sem, z0, z1]) rfl ⟨HZ.2, Or.inl ⟨HV.out, rfl⟩⟩
              | false =>
                cases b2 with
                | true =>
                  have HV := Lib.hid (HNO.out (by rw [HBL.out]; rfl))
                  clear HNO HNX HBL HOK2
                  go_wp2_with fail
                  refine (HS1.out _).mono ?_
                  rintro e w5 ⟨rfl, rfl⟩
                  go_wp2_with fail
                  refine (TL2.out _).mono ?_
                  rintro e w5 ⟨rfl, rfl⟩
                  go_wp2_with fail
                  refine (HP2.out _).mono ?_
                  rintro e w5 ⟨rfl, rfl⟩
                  go_wp2_with (refine wpList_store_row rfl 61 _ _ rfl w.heap.size #[.bool false, .int .i64 0] rfl rfl 61 _ HK3.out.1 (by kernel_rfl) rfl (style_one _ _) ?_)
                  try rw [Exit.noGoto_ret]
                  have HZ := HK3.out.set #[.bool false, .int .i64 0]
                  have z0 := HZ.cell 0
                  have z1 := HZ.cell 1
                  exact bodyPost_ret (v := .tuple #[.agg #[.bool false, .int .i64 0], .slice none 0 0, .bool false]) (by simp [results, Tryd.results50, go_sem, z0, z1]) rfl ⟨HZ.2, Or.inl ⟨HV.out, rfl⟩⟩
                | false =>
                  have HN := Lib.hid (HNX.out (by rw [HBL.out]; rfl))
                  clear HNO HNX HBL HOK2
                  go_wp2_with fail
                  refine (HS1.out _).mono ?_
                  rintro e w5 ⟨rfl, rfl⟩
                  go_wp2_with fail
                  refine (TL2.out _).mono ?_
                  rintro e w5 ⟨rfl, rfl⟩
                  go_wp2_with fail
                  refine (HP2.out _).mono ?_
                  rintro e w5 ⟨rfl, rfl⟩
                  go_wp2_with fail
                  go_round
                  case rel => exact ⟨k + 1, by omega, rfl, by go_num, HN.out⟩
                  case measure => simp [intOf]; omega
            · obtain rfl : ss.length = k := by omega
              have hall : Hid (layOk s.data.toList = true) := by
                show _ = _
                rw [HOK2.out, List.all_eq_true]
                intro y hy
                rw [← HL0.out] at hy
                obtain ⟨z, hz, rfl⟩ := List.mem_map.1 hy
                obtain ⟨j, hj, rfl⟩ := List.getElem_of_mem hz
                have := hno.out j hj
                rw [List.getD_eq_getElem?_getD, List.getElem?_eq_getElem hj] at this
                have e : badLine (ss[j].data.toList) = false := this
                rw [e]; rfl
              have hss : (splitT s.data.toList).map (fun x => (⟨x.toArray⟩ : ByteArray)) = ss := by
                rw [← HL0.out, List.map_map]
                have : ((fun x : List UInt8 => (⟨x.toArray⟩ : ByteArray)) ∘ fun x : ByteArray => x.data.toList) = id := by funext x; exact bl_str x
                rw [this, List.map_id]
              have HSS := Lib.hid hss
              have HG : Hid (StrsIn w3 (some ⟨w2.heap.size, 0, none⟩) ss.length ss) := ⟨fun i hi => ⟨w2.heap.size, 0, rfl, bl_block_lt HH.out, by rw [Nat.zero_add]; exact HCL.out i hi⟩, Nat.le_refl _⟩
              have hlast : (splitT s.data.toList).getLastD [] = (ss.getD (ss.length - 1) ByteArray.empty).data.toList := by
                rw [← HL0.out, List.getLastD_eq_getLast?, List.getLast?_map, List.getLast?_eq_getElem?, List.getD_eq_getElem?_getD]
                rw [List.getElem?_eq_getElem (by omega)]
                rfl
              have hcl := HCL.out (ss.length - 1) (by omega)
              have hcI : (((ss.length - 1 : Nat)) : Int) = (ss.length : Int) - 1 := by omega
              have hidx : ((ss.length : Int) - 1).toNat = ss.length - 1 := by omega
              have hlt0 : (0 : Int) ≤ (ss.length : Int) - 1 := by omega
              have hlt1 : (ss.length : Int) - 1 < (ss.length : Int) := by omega
              generalize ss.getD (ss.length - 1) ByteArray.empty = x at hcl hlast
              have hfresh : w2.heap.size ≠ w.heap.size := by
                have h1 := bl_block_lt HK2.out.1
                omega
              by_cases hx : x.data.toList = []
              · obtain ⟨a1, a2, a3, a4, a5⟩ := empty_facts hx
                have hn2 : 2 ≤ ss.length := by
                  have h := HN2.out (by rw [hlast]; exact hx)
                  rw [← HL0.out, List.length_map] at h
                  exact h
                have hdl : (splitT s.data.toList).dropLast.getLastD [] = (ss.getD (ss.length - 2) ByteArray.empty).data.toList := by
                  rw [← HL0.out, ← List.map_dropLast, List.getLastD_eq_getLast?, List.getLast?_map, List.getLast?_eq_getElem?, List.getElem?_dropLast, List.length_dropLast, List.getD_eq_getElem?_getD]
                  rw [if_pos (by omega), show ss.length - 1 - 1 = ss.length - 2 by omega, List.getElem?_eq_getElem (by omega)]
                  rfl
                have hcl2 := HCL.out (ss.length - 2) (by omega)
                have hidx2 : ((ss.length : Int) - 2).toNat = ss.length - 2 := by omega
                have hlt2 : (0 : Int) ≤ (ss.length : Int) - 2 := by omega
                have hlt3 : (ss.length : Int) - 2 < (ss.length : Int) := by omega
                have hsl : ∀ W, (Instr.sliceAt 48 (.slice (some ⟨w2.heap.size, 0, none⟩) ss.length ss.length) none (some (.int .i64 ((ss.length : Int) - 1))) none).run Tryd.prog W = .ok (.slice (some ⟨w2.heap.size, 0, none⟩) (ss.length - 1) ss.length) W := fun W => by
                  have h := strs_to (some ⟨w2.heap.size, 0, none⟩) ss.length ss.length (ss.length - 1) (by omega) W
                  rw [hcI] at h
                  exact h
                have hwr : IntKind.i64.wrap ((ss.length : Int) - 1) = (ss.length : Int) - 1 := by rw [IntKind.wrap_i64]; omega
                have HD : Hid (layL s.data.toList = (splitT s.data.toList).dropLast) := by
                  show _ = _
                  unfold layL
                  rw [if_neg (by rw [hlast, hx]; simp)]
                have hdr : ((splitT s.data.toList).dropLast).map (fun x => (⟨x.toArray⟩ : ByteArray)) = ss.take (ss.length - 1) := by
                  rw [List.map_dropLast, HSS.out, List.dropLast_eq_take]
                have HDR := Lib.hid hdr
                have hdll : (splitT s.data.toList).dropLast.length = ss.length - 1 := by rw [List.length_dropLast, ← HL0.out, List.length_map]
                have HDLL := Lib.hid hdll
                have f0 := bl_block_cell HK3.out.1 0
                have f1 := bl_block_cell HK3.out.1 1
                have f2 := bl_block_free HK3.out.1 0
                have f3 := bl_block_free HK3.out.1 1
                have HCdef : Hid (layC s.data.toList = if (splitT s.data.toList).dropLast.getLastD [] ≠ [] then 0 else 2) := by
                  show _ = _
                  unfold layC
                  rw [if_neg (by rw [hlast, hx]; simp)]
                generalize ss.getD (ss.length - 2) ByteArray.empty = y at hcl2 hdl
                have HDL := Lib.hid hdl
                clear hx hlast hss hno HOK2 HGET hdr hdll hdl
                by_cases hy : y.data.toList = []
                · obtain ⟨b1, b2, b3, b4, b5⟩ := empty_facts hy
                  have HC : Hid (layC s.data.toList = 2) := by show _ = _; rw [HCdef.out, if_neg (by rw [HDL.out, hy]; simp)]
                  clear hy
                  go_wp2_with fail
                  go_region
                  all_goals
                    go_wp2_with fail
                    have hbs := bl_block_set (bl_block_set HK3.out.1 0 (.bool false)) 1 (.int .i64 2)
                    have z0 := bl_block_cell hbs 0
                    have z1 := bl_block_cell hbs 1
                    try rw [Exit.noGoto_ret]
                    refine bodyPost_ret (v := .tuple #[.agg #[.bool false, .int .i64 2], .slice (some ⟨w2.heap.size, 0, none⟩) (ss.length - 1) ss.length, .bool true]) (by simp [results, Tryd.results50, go_sem, z0, z1]) rfl ⟨?_, Or.inr ⟨hall.out, some ⟨w2.heap.size, 0, none⟩, ss.length, by rw [HC.out, HD.out, HDLL.out], ?_⟩⟩
                    · first
                        | exact ((HK3.out.2.setCell (p := ⟨w.heap.size, 0, none⟩) (Nat.le_refl _) _).setCell (p := ⟨w.heap.size, 1, none⟩) (Nat.le_refl _) _).drew
                        | exact ((HK3.out.2.drew.setCell (p := ⟨w.heap.size, 0, none⟩) (Nat.le_refl _) _).setCell (p := ⟨w.heap.size, 1, none⟩) (Nat.le_refl _) _)
                    · rw [HD.out, HDR.out]
                      refine strs_other (strs_take HG.out _) w.heap.size (fun b off h => by cases h; exact hfresh) (by simp [World.setCell]) (fun k hk => ?_)
                      show (World.setCell (World.setCell w3 _ _) _ _).heap[k]? = _
                      rw [Below.heap_setCell _ _ _ _ (fun e => hk e), Below.heap_setCell _ _ _ _ (fun e => hk e)]
                · obtain ⟨b1, b2, b3, b4, b5⟩ := nonempty_facts hy
                  have HC : Hid (layC s.data.toList = 0) := by show _ = _; rw [HCdef.out, if_pos (by rw [HDL.out]; exact hy)]
                  clear hy
                  go_wp2_with fail
                  go_region
                  all_goals
                    go_wp2_with fail
                    have hbs := bl_block_set (bl_block_set HK3.out.1 0 (.bool false)) 1 (.int .i64 0)
                    have z0 := bl_block_cell hbs 0
                    have z1 := bl_block_cell hbs 1
                    try rw [Exit.noGoto_ret]
                    refine bodyPost_ret (v := .tuple #[.agg #[.bool false, .int .i64 0], .slice (some ⟨w2.heap.size, 0, none⟩) (ss.length - 1) ss.length, .bool true]) (by simp [results, Tryd.results50, go_sem, z0, z1]) rfl ⟨?_, Or.inr ⟨hall.out, some ⟨w2.heap.size, 0, none⟩, ss.length, by rw [HC.out, HD.out, HDLL.out], ?_⟩⟩
                    · first
                        | exact ((HK3.out.2.setCell (p := ⟨w.heap.size, 0, none⟩) (Nat.le_refl _) _).setCell (p := ⟨w.heap.size, 1, none⟩) (Nat.le_refl _) _).drew
                        | exact ((HK3.out.2.drew.setCell (p := ⟨w.heap.size, 0, none⟩) (Nat.le_refl _) _).setCell (p := ⟨w.heap.size, 1, none⟩) (Nat.le_refl _) _)
                    · rw [HD.out, HDR.out]
                      refine strs_other (strs_take HG.out _) w.heap.size (fun b off h => by cases h; exact hfresh) (by simp [World.setCell]) (fun k hk => ?_)
                      show (World.setCell (World.setCell w3 _ _) _ _).heap[k]? = _
                      rw [Below.heap_setCell _ _ _ _ (fun e => hk e), Below.heap_setCell _ _ _ _ (fun e => hk e)]
              · obtain ⟨a1, a2, a3, a4, a5⟩ := nonempty_facts hx
                have HC : Hid (layC s.data.toList = 1 ∧ layL s.data.toList = splitT s.data.toList) := by
                  have h : (splitT s.data.toList).getLastD [] ≠ [] := by rw [hlast]; exact hx
                  exact ⟨by unfold layC; rw [if_pos h], by unfold layL; rw [if_pos h]⟩
                clear hx hlast hss hno HOK2 HGET
                go_wp2_with (refine wpList_store_row rfl 61 _ _ rfl w.heap.size #[.bool false, .int .i64 1] rfl rfl 61 _ HK3.out.1 (by kernel_rfl) rfl (style_one _ _) ?_)
                have HZ := HK3.out.set #[.bool false, .int .i64 1]
                have z0 := HZ.cell 0
                have z1 := HZ.cell 1
                have hll : (splitT s.data.toList).length = ss.length := by rw [← HL0.out, List.length_map]
                try rw [Exit.noGoto_ret]
                refine bodyPost_ret (v := .tuple #[.agg #[.bool false, .int .i64 1], .slice (some ⟨w2.heap.size, 0, none⟩) ss.length ss.length, .bool true]) (by simp [results, Tryd.results50, go_sem, z0, z1]) rfl ⟨HZ.2, Or.inr ⟨hall.out, some ⟨w2.heap.size, 0, none⟩, ss.length, by rw [HC.out.1, HC.out.2, hll], ?_⟩⟩
                rw [HC.out.2, HSS.out]
                refine strs_other HG.out w.heap.size (fun b off h => by cases h; exact hfresh) (by simp [World.setRow]) (fun k hk => by simp only [World.setRow, Array.getElem?_modify]; rw [if_neg (fun e => hk e.symm)])
end Go.Proofs.YtnggbhpnpomfjaaDoor.Bl
