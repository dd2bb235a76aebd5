/- Walk: the document's Lay: a text's style and its lines, or no. Conditions: the text is no longer than 10^5 bytes. -/
import Derived.Test.YtnggbhpnpomfjaaDoorBlLayR
import Derived.Test.YtnggbhpnpomfjaaDoorBlRSplit
import Derived.Test.YtnggbhpnpomfjaaDoorBlTexts
set_option linter.unusedVariables false
namespace Go.Proofs.YtnggbhpnpomfjaaDoor.Bl
open Go.RowKit
theorem index_at (x : ByteArray) (k : Nat) (h : k < x.size) (W : World) : (Instr.index 9 (.string x) (.int .i64 (k : Nat))).run Tryd.prog W = .ok (.int .u8 ((x.data.toList[k]'h).toNat : Int)) W := by
  rw [run_index_string W 9 x .i64 _ Tryd.underlying9, dif_pos ⟨by omega, by omega⟩]
  rfl
theorem byte_eq (c d : UInt8) : ((c.toNat : Int) == (d.toNat : Int)) = decide (c = d) := by
  by_cases h : c = d
  · subst h; simp
  · have : c.toNat ≠ d.toNat := fun e => h (UInt8.toNat_inj.1 e)
    rw [decide_eq_false h, beq_eq_false_iff_ne]
    omega
theorem any_index (l : List UInt8) : decide (Lib.indexByte l 13 < 0) = !(l.any (· == 13)) := by
  have h := index_neg l 13
  by_cases hm : (13 : UInt8) ∈ l
  · have h1 : ¬ (Lib.indexByte l 13 < 0) := fun e => (h.1 e) hm
    have h2 : l.any (· == 13) = true := List.any_eq_true.2 ⟨13, hm, by simp⟩
    rw [decide_eq_false h1, h2]; rfl
  · have h2 : l.any (· == 13) = false := by
      rw [List.any_eq_false]
      intro x hx e
      have : x = 13 := by simpa using e
      exact hm (this ▸ hx)
    rw [decide_eq_true (h.2 hm), h2]; rfl
theorem lay_said (l : List UInt8) : layOk l = (flatL (firstT (splitT l)) && !((!decide ((walkL printB l).2 = l.length) || (splitT l).any badLine) || l.any (· == 13))) := by
  have e : (splitT l).all (fun x => !badLine x) = !((splitT l).any badLine) := by
    rw [List.all_eq_not_any_not]; simp
  unfold layOk
  rw [head_first, any_index, e]
  cases flatL (firstT (splitT l)) <;> cases decide ((walkL printB l).2 = l.length) <;> cases (splitT l).any badLine <;> cases l.any (· == 13) <;> rfl
set_option maxRecDepth 100000 in
set_option maxHeartbeats 3200000 in
theorem rlay_any (s : ByteArray) (w : World) (hm : s.size ≤ 100000) : Calls Tryd.prog 51 #[.string s] w (LayPost s.data.toList w) := by
  have HK0 := Lib.hid (Kept.first w 64 #[.bool false, .int .i64 0])
  have SP := Lib.hid (fun W => rsplit_any s W hm)
  have CK := Lib.hid (fun W => rcheck_text s W (by omega))
  obtain ⟨fv, bad0, hfv, hb0⟩ : ∃ (fv : Int × Int) (bad0 : Bool), faultV s.data.toList (walkL printB s.data.toList).2 = .agg #[.int .i64 fv.1, .int .i64 fv.2] ∧ (fv.1 != 0) = bad0 ∧ bad0 = !decide ((walkL printB s.data.toList).2 = s.data.toList.length) := by
    rcases fault_check s.data.toList with ⟨hk, hv⟩ | ⟨hk, k, hv⟩
    · exact ⟨(0, 0), false, hv, rfl, by rw [decide_eq_true hk]; rfl⟩
    · exact ⟨(8, (k : Nat)), true, hv, rfl, by rw [decide_eq_false hk]; rfl⟩
  obtain ⟨fx, fy⟩ := fv
  rw [hfv] at CK
  obtain ⟨hbx, hbad0⟩ := hb0
  simp only at hbx CK
  have HB0 := Lib.hid hbad0
  clear hfv hbad0
  go_enter Tryd.func51, Tryd.ntmps51
  go_wp2_with fail
  refine (SP.out _).mono ?_
  rintro e W1 ⟨row, rfl, hown, hb1⟩
  have HK1 := Lib.hid (HK0.out.below (hb1))
  obtain ⟨A, c, rfl, hcap⟩ := bl_own_len hown
  have HNB : Hid (∀ b off, A = some ⟨b, off, none⟩ → b ≠ w.heap.size) := fun b off h => by
    subst h
    have := (hown.lt b rfl).1
    simp at this
    omega
  have HG1 := Lib.hid (strs_own hown rfl (Nat.le_refl _))
  rw [List.take_length] at HG1
  clear hown hb1
  go_wp2_with fail
  refine (CK.out _).mono ?_
  rintro e W2 ⟨rfl, hb2⟩
  have HK2 := Lib.hid (HK1.out.below hb2)
  have HG2 := Lib.hid (HG1.out.below hb2)
  have HL0 := Lib.hid (Kept.first W2 33 #[.int .i64 0, .int .i64 0])
  have HL1 := Lib.hid (HL0.out.set #[.int .i64 fx, .int .i64 fy])
  have HK3 := Lib.hid (HK2.out.below HL1.out.2)
  have HG3 := Lib.hid (HG2.out.below HL1.out.2)
  have p0 := HL1.out.cell 0
  have p1 := HL1.out.cell 1
  clear hb2
  go_wp2_with (refine wpList_store_row rfl 33 _ _ rfl W2.heap.size #[.int .i64 fx, .int .i64 fy] rfl rfl 33 _ HL0.out.1 (by kernel_rfl) rfl (two_one _ _) ?_)
  generalize ((W2.alloc _).setRow _ _) = w3 at HK3 HG3 p0 p1 ⊢
  obtain ⟨L, hL⟩ : ∃ L, splitT s.data.toList = L := ⟨_, rfl⟩
  have HLE := Lib.hid hL
  have hLl : L.length ≤ 100001 := by
    rw [← hL, splitT_len]
    have h2 := List.count_le_length (a := (10 : UInt8)) (l := s.data.toList)
    rw [bl_size] at h2
    omega
  rw [hL] at HG3 ⊢
  go_loop [7, 8, 9] (fun u7 u8 u9 => ∃ (i : Nat) (fst : ByteArray) (b : Bool), i ≤ L.length ∧ u7 = .string fst ∧ u8 = .bool b ∧ u9 = .int .i64 (i : Nat) ∧ Hid (fst.data.toList = firstT (L.take i)) ∧ Hid (b = (bad0 || (L.take i).any badLine))) (fun _ _ u9 => L.length - (intOf u9).toNat)
  case atStart => exact ⟨0, ⟨#[]⟩, bad0, Nat.zero_le _, rfl, by simp, rfl, rfl, by simp [Hid]⟩
  case round =>
    obtain ⟨i, fst, b, hi, rfl, rfl, rfl, hfst, hbv⟩ := hrel
    by_cases hlt : i < L.length
    · have hlt' : (i : Int) < (L.length : Int) := by omega
      obtain ⟨bk, off, hA, hbl, hc⟩ := HG3.out.at_ i (by simpa using hlt)
      obtain ⟨x, hx⟩ : ∃ x : ByteArray, x = ⟨(L.getD i []).toArray⟩ := ⟨_, rfl⟩
      have hxd : x.data.toList = L.getD i [] := by rw [hx]
      have hc2 : w3.cell? ⟨bk, off + i, none⟩ = some (.string x) := by rw [hc, hx]; simp [List.getD_eq_getElem?_getD, hlt]
      have HTK : Hid (L.take (i + 1) = L.take i ++ [x.data.toList]) := by show _ = _; rw [List.take_succ_eq_append_getElem hlt, hxd]; simp [List.getD_eq_getElem?_getD, hlt]
      have hxz : x.size ≤ 100000 := by
        have h1 := splitT_each s.data.toList x.data.toList (by rw [HLE.out, hxd, List.getD_eq_getElem?_getD, List.getElem?_eq_getElem hlt]; exact List.getElem_mem hlt)
        rw [bl_size, bl_size] at h1
        omega
      have HBX0 := Lib.hid (bad_bytes x.data.toList)
      clear hc hx hxd
      subst hA
      go_wp2_with fail
      go_loop [11] (fun v => ∃ j : Nat, j ≤ x.size ∧ v = .int .i64 (j : Nat) ∧ Hid (∀ i, i < j → x.data.toList[i]? = some 32)) (fun v => x.size - (intOf v).toNat)
      case atStart => exact ⟨0, Nat.zero_le _, rfl, (fun i h => by omega)⟩
      case round =>
        obtain ⟨j, hj, rfl, hbl2⟩ := hrel
        have hcase : (∃ h : j < x.size, x.data.toList[j]'h = 32) ∨ ¬ (∃ h : j < x.size, x.data.toList[j]'h = 32) := Decidable.em _
        rcases hcase with ⟨hjl, hj32⟩ | hno
        · have hjl' : (j : Int) < (x.size : Int) := by omega
          have hix := index_at x j hjl
          rw [hj32] at hix
          have hix2 : ∀ W, (Instr.index 9 (.string x) (.int .i64 (j : Nat))).run Tryd.prog W = .ok (.int .u8 32) W := hix
          have HN : Hid (∀ i, i < j + 1 → x.data.toList[i]? = some 32) := fun i hi2 => by
            rcases Nat.lt_or_ge i j with h1 | h1
            · exact hbl2.out i h1
            · have : i = j := by omega
              subst this
              rw [List.getElem?_eq_getElem hjl, hj32]
          clear hix hj32 hbl2
          go_wp2_with fail
          go_round
          case rel => exact ⟨j + 1, by omega, by go_num, HN.out⟩
          case measure => simp [intOf]; omega
        · have HBJ : Hid (blanks x.data.toList = j) := blanks_step hbl2.out (fun h => hno (by
            obtain ⟨h1, h2⟩ := List.getElem?_eq_some_iff.1 h
            exact ⟨h1, h2⟩))
          have HBX : Hid (badLine x.data.toList = (decide (x.data.toList[x.size - 1]? = some 32) || decide (x.data.toList[j]? = some 9))) := by show _ = _; rw [HBX0.out, HBJ.out]; rfl
          clear hbl2 HBJ HBX0
          by_cases hjx : j < x.size
          · have hjd : decide (j < x.size) = true := decide_eq_true hjx
            obtain ⟨cj, hcj⟩ : ∃ c, x.data.toList[j]'hjx = c := ⟨_, rfl⟩
            have hcj32 : cj ≠ 32 := fun e => hno ⟨hjx, by rw [hcj, e]⟩
            have hixj := index_at x j hjx
            rw [hcj] at hixj
            have HJG : Hid (x.data.toList[j]? = some cj) := by show _ = _; rw [List.getElem?_eq_getElem hjx, hcj]
            have hcb := byte_eq cj 9
            have hcb2 := byte_eq cj 32
            have hixj2 : ∀ W, (Instr.index 9 (.string x) (.int .i64 (j : Nat))).run Tryd.prog W = .ok (.int .u8 (cj.toNat : Int)) W := hixj
            have hq32 : ((cj.toNat : Int) == 32) = false := by
              have : (((32 : UInt8).toNat : Nat) : Int) = 32 := rfl
              rw [this, decide_eq_false hcj32] at hcb2
              exact hcb2
            have hxe : x.data.toList ≠ [] := by intro e; have := bl_size x; rw [e] at this; simp at this; omega
            obtain ⟨e1, e2, e3, e4, e5⟩ := nonempty_facts hxe
            clear hixj hcj hcb2 hno hxe
            cases b with
            | true =>
              clear hcb
              have HBN : Hid (true = (bad0 || (L.take (i + 1)).any badLine)) := by show _ = _; rw [HTK.out, List.any_append, ← Bool.or_assoc, ← hbv.out]; simp only [List.any_cons, List.any_nil, Bool.or_false]; rw [HBX.out]; simp
              clear HBX hbv hcj32 HJG hjx
              by_cases hfe : fst.data.toList = []
              · obtain ⟨f1, f2, f3, f4, f5⟩ := empty_facts hfe
                have HFN : Hid ((x).data.toList = firstT (L.take (i + 1))) := by show _ = _; rw [HTK.out, firstT_snoc, ← hfst.out]; rw [if_pos hfe]
                clear hfe hfst HTK
                go_wp2_with fail
                go_round
                case rel => exact ⟨i + 1, _, _, by omega, rfl, rfl, by go_num, HFN.out, HBN.out⟩
                case measure => simp [intOf]; omega
              · obtain ⟨f1, f2, f3, f4, f5⟩ := nonempty_facts hfe
                have HFN : Hid ((fst).data.toList = firstT (L.take (i + 1))) := by show _ = _; rw [HTK.out, firstT_snoc, ← hfst.out]; rw [if_neg hfe]
                clear hfe hfst HTK
                go_wp2_with fail
                go_round
                case rel => exact ⟨i + 1, _, _, by omega, rfl, rfl, by go_num, HFN.out, HBN.out⟩
                case measure => simp [intOf]; omega
            | false =>
              have hll : x.size - 1 < x.size := by omega
              obtain ⟨cl, hcl⟩ : ∃ c, x.data.toList[x.size - 1]'hll = c := ⟨_, rfl⟩
              have hixl := index_at x (x.size - 1) hll
              rw [hcl, show ((x.size - 1 : Nat) : Int) = (x.size : Int) - 1 by omega] at hixl
              have HLG : Hid (x.data.toList[x.size - 1]? = some cl) := by show _ = _; rw [List.getElem?_eq_getElem hll, hcl]
              have hcc := byte_eq cl 32
              have hixl2 : ∀ W, (Instr.index 9 (.string x) (.int .i64 ((x.size : Int) - 1))).run Tryd.prog W = .ok (.int .u8 (cl.toNat : Int)) W := hixl
              clear hcl hixl hll
              by_cases hc32 : cl = 32
              · have hq : ((cl.toNat : Int) == 32) = true := by rw [hc32]; rfl
                clear hcc
                have HBN : Hid (true = (bad0 || (L.take (i + 1)).any badLine)) := by show _ = _; rw [HTK.out, List.any_append, ← Bool.or_assoc, ← hbv.out]; simp only [List.any_cons, List.any_nil, Bool.or_false]; rw [HBX.out]; rw [HLG.out, hc32]; simp
                clear HBX hbv hc32 HLG HJG hjx hcj32 hcb
                by_cases hfe : fst.data.toList = []
                · obtain ⟨f1, f2, f3, f4, f5⟩ := empty_facts hfe
                  have HFN : Hid ((x).data.toList = firstT (L.take (i + 1))) := by show _ = _; rw [HTK.out, firstT_snoc, ← hfst.out]; rw [if_pos hfe]
                  clear hfe hfst HTK
                  go_wp2_with fail
                  go_round
                  case rel => exact ⟨i + 1, _, _, by omega, rfl, rfl, by go_num, HFN.out, HBN.out⟩
                  case measure => simp [intOf]; omega
                · obtain ⟨f1, f2, f3, f4, f5⟩ := nonempty_facts hfe
                  have HFN : Hid ((fst).data.toList = firstT (L.take (i + 1))) := by show _ = _; rw [HTK.out, firstT_snoc, ← hfst.out]; rw [if_neg hfe]
                  clear hfe hfst HTK
                  go_wp2_with fail
                  go_round
                  case rel => exact ⟨i + 1, _, _, by omega, rfl, rfl, by go_num, HFN.out, HBN.out⟩
                  case measure => simp [intOf]; omega
              · have hq : ((cl.toNat : Int) == 32) = false := by
                  have : (((32 : UInt8).toNat : Nat) : Int) = 32 := rfl
                  rw [this, decide_eq_false hc32] at hcc
                  exact hcc
                clear hcc
                by_cases hc9 : cj = 9
                · have hq9 : ((cj.toNat : Int) == 9) = true := by rw [hc9]; rfl
                  clear hcb
                  have HBN : Hid (true = (bad0 || (L.take (i + 1)).any badLine)) := by show _ = _; rw [HTK.out, List.any_append, ← Bool.or_assoc, ← hbv.out]; simp only [List.any_cons, List.any_nil, Bool.or_false]; rw [HBX.out]; rw [HLG.out, HJG.out, hc9]; simp
                  clear HBX hbv hc9 hc32 HLG HJG hjx hcj32
                  by_cases hfe : fst.data.toList = []
                  · obtain ⟨f1, f2, f3, f4, f5⟩ := empty_facts hfe
                    have HFN : Hid ((x).data.toList = firstT (L.take (i + 1))) := by show _ = _; rw [HTK.out, firstT_snoc, ← hfst.out]; rw [if_pos hfe]
                    clear hfe hfst HTK
                    go_wp2_with fail
                    go_round
                    case rel => exact ⟨i + 1, _, _, by omega, rfl, rfl, by go_num, HFN.out, HBN.out⟩
                    case measure => simp [intOf]; omega
                  · obtain ⟨f1, f2, f3, f4, f5⟩ := nonempty_facts hfe
                    have HFN : Hid ((fst).data.toList = firstT (L.take (i + 1))) := by show _ = _; rw [HTK.out, firstT_snoc, ← hfst.out]; rw [if_neg hfe]
                    clear hfe hfst HTK
                    go_wp2_with fail
                    go_round
                    case rel => exact ⟨i + 1, _, _, by omega, rfl, rfl, by go_num, HFN.out, HBN.out⟩
                    case measure => simp [intOf]; omega
                · have hq9 : ((cj.toNat : Int) == 9) = false := by
                    have : (((9 : UInt8).toNat : Nat) : Int) = 9 := rfl
                    rw [this, decide_eq_false hc9] at hcb
                    exact hcb
                  clear hcb
                  have HBN : Hid (false = (bad0 || (L.take (i + 1)).any badLine)) := by show _ = _; rw [HTK.out, List.any_append, ← Bool.or_assoc, ← hbv.out]; simp only [List.any_cons, List.any_nil, Bool.or_false]; rw [HBX.out]; rw [HLG.out, HJG.out]; simp [hc32, hc9]
                  clear HBX hbv hc9 hc32 HLG HJG hjx hcj32
                  by_cases hfe : fst.data.toList = []
                  · obtain ⟨f1, f2, f3, f4, f5⟩ := empty_facts hfe
                    have HFN : Hid ((x).data.toList = firstT (L.take (i + 1))) := by show _ = _; rw [HTK.out, firstT_snoc, ← hfst.out]; rw [if_pos hfe]
                    clear hfe hfst HTK
                    go_wp2_with fail
                    go_round
                    case rel => exact ⟨i + 1, _, _, by omega, rfl, rfl, by go_num, HFN.out, HBN.out⟩
                    case measure => simp [intOf]; omega
                  · obtain ⟨f1, f2, f3, f4, f5⟩ := nonempty_facts hfe
                    have HFN : Hid ((fst).data.toList = firstT (L.take (i + 1))) := by show _ = _; rw [HTK.out, firstT_snoc, ← hfst.out]; rw [if_neg hfe]
                    clear hfe hfst HTK
                    go_wp2_with fail
                    go_round
                    case rel => exact ⟨i + 1, _, _, by omega, rfl, rfl, by go_num, HFN.out, HBN.out⟩
                    case measure => simp [intOf]; omega
          · have hjd : decide (j < x.size) = false := decide_eq_false hjx
            have HJG : Hid (x.data.toList[j]? = none) := List.getElem?_eq_none (by rw [bl_size]; omega)
            clear hno
            cases b with
            | true =>
              have HBN : Hid (true = (bad0 || (L.take (i + 1)).any badLine)) := by show _ = _; rw [HTK.out, List.any_append, ← Bool.or_assoc, ← hbv.out]; simp only [List.any_cons, List.any_nil, Bool.or_false]; rw [HBX.out]; simp
              clear HBX hbv HJG hjx
              by_cases hfe : fst.data.toList = []
              · obtain ⟨f1, f2, f3, f4, f5⟩ := empty_facts hfe
                have HFN : Hid ((x).data.toList = firstT (L.take (i + 1))) := by show _ = _; rw [HTK.out, firstT_snoc, ← hfst.out]; rw [if_pos hfe]
                clear hfe hfst HTK
                go_wp2_with fail
                go_round
                case rel => exact ⟨i + 1, _, _, by omega, rfl, rfl, by go_num, HFN.out, HBN.out⟩
                case measure => simp [intOf]; omega
              · obtain ⟨f1, f2, f3, f4, f5⟩ := nonempty_facts hfe
                have HFN : Hid ((fst).data.toList = firstT (L.take (i + 1))) := by show _ = _; rw [HTK.out, firstT_snoc, ← hfst.out]; rw [if_neg hfe]
                clear hfe hfst HTK
                go_wp2_with fail
                go_round
                case rel => exact ⟨i + 1, _, _, by omega, rfl, rfl, by go_num, HFN.out, HBN.out⟩
                case measure => simp [intOf]; omega
            | false =>
              by_cases hxe : x.data.toList = []
              · obtain ⟨e1, e2, e3, e4, e5⟩ := empty_facts hxe
                have HBN : Hid (false = (bad0 || (L.take (i + 1)).any badLine)) := by show _ = _; rw [HTK.out, List.any_append, ← Bool.or_assoc, ← hbv.out]; simp only [List.any_cons, List.any_nil, Bool.or_false]; rw [HBX.out]; rw [hxe]; simp
                clear HBX hbv hxe HJG hjx
                by_cases hfe : fst.data.toList = []
                · obtain ⟨f1, f2, f3, f4, f5⟩ := empty_facts hfe
                  have HFN : Hid ((x).data.toList = firstT (L.take (i + 1))) := by show _ = _; rw [HTK.out, firstT_snoc, ← hfst.out]; rw [if_pos hfe]
                  clear hfe hfst HTK
                  go_wp2_with fail
                  go_round
                  case rel => exact ⟨i + 1, _, _, by omega, rfl, rfl, by go_num, HFN.out, HBN.out⟩
                  case measure => simp [intOf]; omega
                · obtain ⟨f1, f2, f3, f4, f5⟩ := nonempty_facts hfe
                  have HFN : Hid ((fst).data.toList = firstT (L.take (i + 1))) := by show _ = _; rw [HTK.out, firstT_snoc, ← hfst.out]; rw [if_neg hfe]
                  clear hfe hfst HTK
                  go_wp2_with fail
                  go_round
                  case rel => exact ⟨i + 1, _, _, by omega, rfl, rfl, by go_num, HFN.out, HBN.out⟩
                  case measure => simp [intOf]; omega
              · obtain ⟨e1, e2, e3, e4, e5⟩ := nonempty_facts hxe
                clear hxe
                have hll : x.size - 1 < x.size := by omega
                obtain ⟨cl, hcl⟩ : ∃ c, x.data.toList[x.size - 1]'hll = c := ⟨_, rfl⟩
                have hixl := index_at x (x.size - 1) hll
                rw [hcl, show ((x.size - 1 : Nat) : Int) = (x.size : Int) - 1 by omega] at hixl
                have HLG : Hid (x.data.toList[x.size - 1]? = some cl) := by show _ = _; rw [List.getElem?_eq_getElem hll, hcl]
                have hcc := byte_eq cl 32
                have hixl2 : ∀ W, (Instr.index 9 (.string x) (.int .i64 ((x.size : Int) - 1))).run Tryd.prog W = .ok (.int .u8 (cl.toNat : Int)) W := hixl
                clear hcl hixl hll
                by_cases hc32 : cl = 32
                · have hq : ((cl.toNat : Int) == 32) = true := by rw [hc32]; rfl
                  clear hcc
                  have HBN : Hid (true = (bad0 || (L.take (i + 1)).any badLine)) := by show _ = _; rw [HTK.out, List.any_append, ← Bool.or_assoc, ← hbv.out]; simp only [List.any_cons, List.any_nil, Bool.or_false]; rw [HBX.out]; rw [HLG.out, hc32]; simp
                  clear HBX hbv hc32 HLG HJG hjx
                  by_cases hfe : fst.data.toList = []
                  · obtain ⟨f1, f2, f3, f4, f5⟩ := empty_facts hfe
                    have HFN : Hid ((x).data.toList = firstT (L.take (i + 1))) := by show _ = _; rw [HTK.out, firstT_snoc, ← hfst.out]; rw [if_pos hfe]
                    clear hfe hfst HTK
                    go_wp2_with fail
                    go_round
                    case rel => exact ⟨i + 1, _, _, by omega, rfl, rfl, by go_num, HFN.out, HBN.out⟩
                    case measure => simp [intOf]; omega
                  · obtain ⟨f1, f2, f3, f4, f5⟩ := nonempty_facts hfe
                    have HFN : Hid ((fst).data.toList = firstT (L.take (i + 1))) := by show _ = _; rw [HTK.out, firstT_snoc, ← hfst.out]; rw [if_neg hfe]
                    clear hfe hfst HTK
                    go_wp2_with fail
                    go_round
                    case rel => exact ⟨i + 1, _, _, by omega, rfl, rfl, by go_num, HFN.out, HBN.out⟩
                    case measure => simp [intOf]; omega
                · have hq : ((cl.toNat : Int) == 32) = false := by
                    have : (((32 : UInt8).toNat : Nat) : Int) = 32 := rfl
                    rw [this, decide_eq_false hc32] at hcc
                    exact hcc
                  clear hcc
                  have HBN : Hid (false = (bad0 || (L.take (i + 1)).any badLine)) := by show _ = _; rw [HTK.out, List.any_append, ← Bool.or_assoc, ← hbv.out]; simp only [List.any_cons, List.any_nil, Bool.or_false]; rw [HBX.out]; rw [HLG.out, HJG.out]; simp [hc32]
                  clear HBX hbv hc32 HLG HJG hjx
                  by_cases hfe : fst.data.toList = []
                  · obtain ⟨f1, f2, f3, f4, f5⟩ := empty_facts hfe
                    have HFN : Hid ((x).data.toList = firstT (L.take (i + 1))) := by show _ = _; rw [HTK.out, firstT_snoc, ← hfst.out]; rw [if_pos hfe]
                    clear hfe hfst HTK
                    go_wp2_with fail
                    go_round
                    case rel => exact ⟨i + 1, _, _, by omega, rfl, rfl, by go_num, HFN.out, HBN.out⟩
                    case measure => simp [intOf]; omega
                  · obtain ⟨f1, f2, f3, f4, f5⟩ := nonempty_facts hfe
                    have HFN : Hid ((fst).data.toList = firstT (L.take (i + 1))) := by show _ = _; rw [HTK.out, firstT_snoc, ← hfst.out]; rw [if_neg hfe]
                    clear hfe hfst HTK
                    go_wp2_with fail
                    go_round
                    case rel => exact ⟨i + 1, _, _, by omega, rfl, rfl, by go_num, HFN.out, HBN.out⟩
                    case measure => simp [intOf]; omega
    · obtain rfl : i = L.length := by omega
      rw [List.take_length] at hfst hbv
      have HBV := Lib.hid hbv.out
      have HFS := Lib.hid hfst.out
      clear hbv hfst
      go_wp2_with fail
      go_loop [8, 12] (fun u8 u12 => ∃ (k : Nat) (d : Bool), k ≤ s.size ∧ u8 = .bool d ∧ u12 = .int .i64 (k : Nat) ∧ Hid (d = (b || (s.data.toList.take k).any (· == 13)))) (fun _ u12 => s.size - (intOf u12).toNat)
      case atStart => exact ⟨0, b, Nat.zero_le _, rfl, rfl, by simp [Hid]⟩
      case round =>
        obtain ⟨k, d, hk, rfl, rfl, hd⟩ := hrel
        by_cases hks : k < s.size
        · have hks' : (k : Int) < (s.size : Int) := by omega
          obtain ⟨ck, hck⟩ : ∃ c, s.data.toList[k]'hks = c := ⟨_, rfl⟩
          have hixk := index_at s k hks
          rw [hck] at hixk
          have hixk2 : ∀ W, (Instr.index 9 (.string s) (.int .i64 (k : Nat))).run Tryd.prog W = .ok (.int .u8 (ck.toNat : Int)) W := hixk
          have HTK2 : Hid (s.data.toList.take (k + 1) = s.data.toList.take k ++ [ck]) := by show _ = _; rw [List.take_succ_eq_append_getElem hks, hck]
          have hcb := byte_eq ck 13
          clear hixk hck
          cases d with
          | true =>
            have HD : Hid (true = (b || (s.data.toList.take (k + 1)).any (· == 13))) := by show _ = _; rw [HTK2.out, List.any_append, ← Bool.or_assoc, ← hd.out]; rfl
            clear hd hcb
            go_wp2_with fail
            go_round
            case rel => exact ⟨k + 1, _, by omega, rfl, by go_num, HD.out⟩
            case measure => simp [intOf]; omega
          | false =>
            obtain ⟨q, hq⟩ : ∃ q, ((ck.toNat : Int) == 13) = q := ⟨_, rfl⟩
            have HD : Hid (q = (b || (s.data.toList.take (k + 1)).any (· == 13))) := by
              show _ = _
              have h13 : (((13 : UInt8).toNat : Nat) : Int) = 13 := rfl
              rw [h13, hq] at hcb
              rw [HTK2.out, List.any_append, ← Bool.or_assoc, ← hd.out, hcb]
              simp
              rfl
            clear hd hcb
            go_wp2_with fail
            go_round
            case rel => exact ⟨k + 1, _, by omega, rfl, by go_num, HD.out⟩
            case measure => simp [intOf]; omega
        · obtain rfl : k = s.size := by omega
          have HOK : Hid (layOk s.data.toList = (flatL fst.data.toList && !d)) := by
            show _ = _
            have h0 := hd.out
            rw [show s.data.toList.take s.size = s.data.toList from List.take_length, HBV.out, HB0.out] at h0
            rw [h0, lay_said, HLE.out, ← HFS.out]
          clear hd HBV HB0 CK
          cases d with
          | true =>
            have HV : Hid (layOk s.data.toList = false) := by show _ = _; rw [HOK.out]; simp
            clear HOK
            go_wp2_with (refine wpList_store_row rfl 64 _ _ rfl w.heap.size #[.bool false, .int .i64 0] rfl rfl 64 _ HK3.out.1 (by kernel_rfl) rfl (style_one _ _) ?_)
            try rw [Exit.noGoto_ret]
            have HZ := HK3.out.set #[.bool false, .int .i64 0]
            have z0 := HZ.cell 0
            have z1 := HZ.cell 1
            exact bodyPost_ret (v := .tuple #[.agg #[.bool false, .int .i64 0], .slice none 0 0, .bool false]) (by simp [results, Tryd.results51, go_sem, z0, z1]) rfl ⟨HZ.2, Or.inl ⟨HV.out, rfl⟩⟩
          | false =>
            by_cases hfe : fst.data.toList = []
            · obtain ⟨f1, f2, f3, f4, f5⟩ := empty_facts hfe
              have HV : Hid (layOk s.data.toList = false) := by show _ = _; rw [HOK.out, hfe]; rfl
              clear HOK hfe
              go_wp2_with (refine wpList_store_row rfl 64 _ _ rfl w.heap.size #[.bool false, .int .i64 0] rfl rfl 64 _ HK3.out.1 (by kernel_rfl) rfl (style_one _ _) ?_)
              try rw [Exit.noGoto_ret]
              have HZ := HK3.out.set #[.bool false, .int .i64 0]
              have z0 := HZ.cell 0
              have z1 := HZ.cell 1
              exact bodyPost_ret (v := .tuple #[.agg #[.bool false, .int .i64 0], .slice none 0 0, .bool false]) (by simp [results, Tryd.results51, go_sem, z0, z1]) rfl ⟨HZ.2, Or.inl ⟨HV.out, rfl⟩⟩
            · obtain ⟨f1, f2, f3, f4, f5⟩ := nonempty_facts hfe
              have HF := Lib.hid (flat_byte f5)
              have hx0 := index_zero fst f5
              obtain ⟨q, hq⟩ : ∃ q, (((fst[0]'f5).toNat : Int) != 32) = q := ⟨_, rfl⟩
              rw [hq] at HF
              have hq2 : (((fst[0]'f5).toNat : Int) == 32) = !q := by rw [← hq]; simp [bne]
              generalize (fst[0]'f5).toNat = cc at hx0 hq2
              have HN2 : Hid (L.getLastD [] = [] → 2 ≤ L.length) := fun h => by
                rcases Nat.lt_or_ge L.length 2 with h1 | h1
                · exfalso
                  have h2 := splitT_len s.data.toList
                  rw [HLE.out] at h2
                  have h3 : 10 ∉ s.data.toList := List.count_eq_zero.1 (by omega)
                  have h4 := HLE.out
                  rw [splitT_none h3] at h4
                  have h5 := HFS.out
                  rw [← h4] at h5 h
                  have h6 : s.data.toList = [] := by simpa using h
                  rw [h6] at h5
                  exact hfe (by rw [h5]; rfl)
                · exact h1
              clear hfe hq HFS
              cases q with
              | false =>
                simp only [Bool.not_false] at hq2
                have HV : Hid (layOk s.data.toList = false) := by show _ = _; rw [HOK.out, HF.out]; rfl
                clear HOK HF
                go_wp2_with (refine wpList_store_row rfl 64 _ _ rfl w.heap.size #[.bool false, .int .i64 0] rfl rfl 64 _ HK3.out.1 (by kernel_rfl) rfl (style_one _ _) ?_)
                try rw [Exit.noGoto_ret]
                have HZ := HK3.out.set #[.bool false, .int .i64 0]
                have z0 := HZ.cell 0
                have z1 := HZ.cell 1
                exact bodyPost_ret (v := .tuple #[.agg #[.bool false, .int .i64 0], .slice none 0 0, .bool false]) (by simp [results, Tryd.results51, go_sem, z0, z1]) rfl ⟨HZ.2, Or.inl ⟨HV.out, rfl⟩⟩
              | true =>
                simp only [Bool.not_true] at hq2
                have hall : Hid (layOk s.data.toList = true) := by show _ = _; rw [HOK.out, HF.out]; rfl
                clear HOK HF
                have hn0 : 1 ≤ L.length := by
                  rw [← HLE.out, splitT_len]; omega
                have hlast : L.getLastD [] = L.getD (L.length - 1) [] := by
                  rw [List.getLastD_eq_getLast?, List.getLast?_eq_getElem?, List.getD_eq_getElem?_getD]
                obtain ⟨bk, off, hA, hbl, hcl0⟩ := HG3.out.at_ (L.length - 1) (by simp; omega)
                subst hA
                obtain ⟨x, hx⟩ : ∃ x : ByteArray, x = ⟨(L.getD (L.length - 1) []).toArray⟩ := ⟨_, rfl⟩
                have hxd : x.data.toList = L.getD (L.length - 1) [] := by rw [hx]
                have hcl : w3.cell? ⟨bk, off + (L.length - 1), none⟩ = some (.string x) := by rw [hcl0, hx]; simp [List.getD_eq_getElem?_getD, show L.length - 1 < L.length by omega]
                rw [← hxd] at hlast
                clear hx hxd hcl0
                have hcI : (((L.length - 1 : Nat)) : Int) = (L.length : Int) - 1 := by omega
                have hidx : ((L.length : Int) - 1).toNat = L.length - 1 := by omega
                have hlt0 : (0 : Int) ≤ (L.length : Int) - 1 := by omega
                have hlt1 : (L.length : Int) - 1 < (L.length : Int) := by omega
                have hcap3 := HG3.out.cap
                rw [List.length_map] at hcap3
                have hfresh := HNB.out bk off rfl
                have HLL : Hid (layL s.data.toList = if L.getLastD [] ≠ [] then L else L.dropLast) := by
                  show _ = _
                  unfold layL
                  rw [HLE.out]
                have HCC : Hid (layC s.data.toList = if L.getLastD [] ≠ [] then 1 else if L.dropLast.getLastD [] ≠ [] then 0 else 2) := by
                  show _ = _
                  unfold layC
                  rw [HLE.out]
                clear HLE
                by_cases hxe : x.data.toList = []
                · obtain ⟨a1, a2, a3, a4, a5⟩ := empty_facts hxe
                  have hn2 : 2 ≤ L.length := HN2.out (by rw [hlast]; exact hxe)
                  have hdl : L.dropLast.getLastD [] = L.getD (L.length - 2) [] := by
                    rw [List.getLastD_eq_getLast?, List.getLast?_eq_getElem?, List.getElem?_dropLast, List.length_dropLast, List.getD_eq_getElem?_getD]
                    rw [if_pos (by omega), show L.length - 1 - 1 = L.length - 2 by omega]
                  obtain ⟨bk2, off2, hA2, hbl2, hcl02⟩ := HG3.out.at_ (L.length - 2) (by simp; omega)
                  simp only [Option.some.injEq, Addr.mk.injEq, and_true] at hA2
                  obtain ⟨rfl, rfl⟩ := hA2
                  obtain ⟨y, hy⟩ : ∃ y : ByteArray, y = ⟨(L.getD (L.length - 2) []).toArray⟩ := ⟨_, rfl⟩
                  have hyd : y.data.toList = L.getD (L.length - 2) [] := by rw [hy]
                  have hcl2 : w3.cell? ⟨bk, off + (L.length - 2), none⟩ = some (.string y) := by rw [hcl02, hy]; simp [List.getD_eq_getElem?_getD, show L.length - 2 < L.length by omega]
                  rw [← hyd] at hdl
                  clear hy hyd hcl02
                  have hidx2 : ((L.length : Int) - 2).toNat = L.length - 2 := by omega
                  have hlt2 : (0 : Int) ≤ (L.length : Int) - 2 := by omega
                  have hlt3 : (L.length : Int) - 2 < (L.length : Int) := by omega
                  have hsl : ∀ W, (Instr.sliceAt 48 (.slice (some ⟨bk, off, none⟩) L.length c) none (some (.int .i64 ((L.length : Int) - 1))) none).run Tryd.prog W = .ok (.slice (some ⟨bk, off, none⟩) (L.length - 1) c) W := fun W => by
                    have h := strs_to (some ⟨bk, off, none⟩) L.length c (L.length - 1) (by omega) W
                    rw [hcI] at h
                    exact h
                  have hwr : IntKind.i64.wrap ((L.length : Int) - 1) = (L.length : Int) - 1 := by rw [IntKind.wrap_i64]; omega
                  have HD : Hid (layL s.data.toList = L.dropLast) := by
                    show _ = _
                    rw [HLL.out, if_neg (by rw [hlast, hxe]; simp)]
                  have hdll : L.dropLast.length = L.length - 1 := List.length_dropLast
                  have HDLL := Lib.hid hdll
                  have HTK3 : Hid ((L.dropLast).map (fun x => (⟨x.toArray⟩ : ByteArray)) = (L.map (fun x => (⟨x.toArray⟩ : ByteArray))).take (L.length - 1)) := by show _ = _; rw [List.dropLast_eq_take, List.map_take]
                  have f0 := bl_block_cell HK3.out.1 0
                  have f1 := bl_block_cell HK3.out.1 1
                  have f2 := bl_block_free HK3.out.1 0
                  have f3 := bl_block_free HK3.out.1 1
                  have HCdef : Hid (layC s.data.toList = if L.dropLast.getLastD [] ≠ [] then 0 else 2) := by
                    show _ = _
                    rw [HCC.out, if_neg (by rw [hlast, hxe]; simp)]
                  have HDL := Lib.hid hdl
                  clear hxe hlast HCC HLL hdll hdl HN2
                  by_cases hy : y.data.toList = []
                  · obtain ⟨b1, b2, b3, b4, b5⟩ := empty_facts hy
                    have HC : Hid (layC s.data.toList = 2) := by show _ = _; rw [HCdef.out, if_neg (by rw [HDL.out, hy]; simp)]
                    clear hy
                    go_wp2_with fail
                    go_region
                    all_goals
                      go_wp2_with fail
                      have hbs := bl_block_set (bl_block_set HK3.out.1 0 (.bool false)) 1 (.int .i64 2)
                      have z0 := bl_block_cell hbs 0
                      have z1 := bl_block_cell hbs 1
                      try rw [Exit.noGoto_ret]
                      refine bodyPost_ret (v := .tuple #[.agg #[.bool false, .int .i64 2], .slice (some ⟨bk, off, none⟩) (L.length - 1) c, .bool true]) (by simp [results, Tryd.results51, go_sem, z0, z1]) rfl ⟨?_, Or.inr ⟨hall.out, some ⟨bk, off, none⟩, c, by rw [HC.out, HD.out, HDLL.out], ?_⟩⟩
                      · first
                          | exact ((HK3.out.2.setCell (p := ⟨w.heap.size, 0, none⟩) (Nat.le_refl _) _).setCell (p := ⟨w.heap.size, 1, none⟩) (Nat.le_refl _) _).drew
                          | exact ((HK3.out.2.drew.setCell (p := ⟨w.heap.size, 0, none⟩) (Nat.le_refl _) _).setCell (p := ⟨w.heap.size, 1, none⟩) (Nat.le_refl _) _)
                      · rw [HD.out, HTK3.out]
                        refine strs_other (strs_take HG3.out _) w.heap.size (fun b off h => by cases h; exact hfresh) (by simp [World.setCell]) (fun k hk => ?_)
                        show (World.setCell (World.setCell w3 _ _) _ _).heap[k]? = _
                        rw [Below.heap_setCell _ _ _ _ (fun e => hk e), Below.heap_setCell _ _ _ _ (fun e => hk e)]
                  · obtain ⟨b1, b2, b3, b4, b5⟩ := nonempty_facts hy
                    have HC : Hid (layC s.data.toList = 0) := by show _ = _; rw [HCdef.out, if_pos (by rw [HDL.out]; exact hy)]
                    clear hy
                    go_wp2_with fail
                    go_region
                    all_goals
                      go_wp2_with fail
                      have hbs := bl_block_set (bl_block_set HK3.out.1 0 (.bool false)) 1 (.int .i64 0)
                      have z0 := bl_block_cell hbs 0
                      have z1 := bl_block_cell hbs 1
                      try rw [Exit.noGoto_ret]
                      refine bodyPost_ret (v := .tuple #[.agg #[.bool false, .int .i64 0], .slice (some ⟨bk, off, none⟩) (L.length - 1) c, .bool true]) (by simp [results, Tryd.results51, go_sem, z0, z1]) rfl ⟨?_, Or.inr ⟨hall.out, some ⟨bk, off, none⟩, c, by rw [HC.out, HD.out, HDLL.out], ?_⟩⟩
                      · first
                          | exact ((HK3.out.2.setCell (p := ⟨w.heap.size, 0, none⟩) (Nat.le_refl _) _).setCell (p := ⟨w.heap.size, 1, none⟩) (Nat.le_refl _) _).drew
                          | exact ((HK3.out.2.drew.setCell (p := ⟨w.heap.size, 0, none⟩) (Nat.le_refl _) _).setCell (p := ⟨w.heap.size, 1, none⟩) (Nat.le_refl _) _)
                      · rw [HD.out, HTK3.out]
                        refine strs_other (strs_take HG3.out _) w.heap.size (fun b off h => by cases h; exact hfresh) (by simp [World.setCell]) (fun k hk => ?_)
                        show (World.setCell (World.setCell w3 _ _) _ _).heap[k]? = _
                        rw [Below.heap_setCell _ _ _ _ (fun e => hk e), Below.heap_setCell _ _ _ _ (fun e => hk e)]
                · obtain ⟨a1, a2, a3, a4, a5⟩ := nonempty_facts hxe
                  have HC : Hid (layC s.data.toList = 1 ∧ layL s.data.toList = L) := by
                    have h : L.getLastD [] ≠ [] := by rw [hlast]; exact hxe
                    exact ⟨by rw [HCC.out, if_pos h], by rw [HLL.out, if_pos h]⟩
                  clear hxe hlast HCC HLL HN2
                  go_wp2_with (refine wpList_store_row rfl 64 _ _ rfl w.heap.size #[.bool false, .int .i64 1] rfl rfl 64 _ HK3.out.1 (by kernel_rfl) rfl (style_one _ _) ?_)
                  have HZ := HK3.out.set #[.bool false, .int .i64 1]
                  have z0 := HZ.cell 0
                  have z1 := HZ.cell 1
                  try rw [Exit.noGoto_ret]
                  refine bodyPost_ret (v := .tuple #[.agg #[.bool false, .int .i64 1], .slice (some ⟨bk, off, none⟩) L.length c, .bool true]) (by simp [results, Tryd.results51, go_sem, z0, z1]) rfl ⟨HZ.2, Or.inr ⟨hall.out, some ⟨bk, off, none⟩, c, by rw [HC.out.1, HC.out.2], ?_⟩⟩
                  rw [HC.out.2]
                  refine strs_other HG3.out w.heap.size (fun b off h => by cases h; exact hfresh) (by simp [World.setRow]) (fun k hk => by simp only [World.setRow, Array.getElem?_modify]; rw [if_neg (fun e => hk e.symm)])
end Go.Proofs.YtnggbhpnpomfjaaDoor.Bl
