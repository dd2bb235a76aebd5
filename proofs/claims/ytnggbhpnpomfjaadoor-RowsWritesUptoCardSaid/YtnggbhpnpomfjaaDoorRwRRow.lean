/- Walks: the document's row of a line; whether a row is empty: the document's and the program's. Conditions: the line is no longer than 2000000 bytes. -/
import Derived.Test.YtnggbhpnpomfjaaDoorRwRead
import Derived.Test.YtnggbhpnpomfjaaDoorRwRLines
set_option linter.unusedVariables false
namespace Go.Proofs.YtnggbhpnpomfjaaDoor.Rw
open Go.RowKit Bl
def emptyB : List UInt8 → Bool
  | [] => true
  | c :: _ => c == 35
theorem trimR_snoc (l : List UInt8) (c : UInt8) : Lib.trimRightB (l ++ [c]) 32 = if c = 32 then Lib.trimRightB l 32 else l ++ [c] := by
  unfold Lib.trimRightB
  rw [List.reverse_append]
  show (((c :: l.reverse).dropWhile (· == 32)).reverse) = _
  by_cases h : c = 32
  · rw [List.dropWhile_cons_of_pos (by simpa using h), if_pos h]
  · rw [List.dropWhile_cons_of_neg (by simpa using h), if_neg h]; simp
theorem mid_next {l : List UInt8} {b m : Nat} (hb : b ≤ m) (h : m < l.length) : (l.take (m + 1)).drop b = (l.take m).drop b ++ [l[m]'h] := by
  rw [take_next h, List.drop_append_of_le_length (by rw [List.length_take]; omega)]
theorem empty_head {x : ByteArray} (h : 0 < x.size) : emptyB x.data.toList = ((((x[0]'h).toNat : Int)) == 35) := by
  have hl : 0 < x.data.toList.length := h
  cases hx : x.data.toList with
  | nil => rw [hx] at hl; simp at hl
  | cons c t =>
    have e : x[0]'h = c := by
      have h1 : x.data.toList[0]'hl = c := by simp [hx]
      rw [← h1]; rfl
    rw [e]
    show (c == 35) = _
    have := byte_eq c 35
    rw [show (((35 : UInt8).toNat : Nat) : Int) = 35 from rfl] at this
    rw [this]
    by_cases hc : c = 35 <;> simp [hc]
set_option maxRecDepth 100000 in
theorem rempty_any (r : Rw) (w : World) : Calls Tryd.prog 44 #[.agg #[.int .i64 r.col, .string r.txt, .int .i64 r.ln]] w fun e w' => e = .returned (.bool (emptyB r.txt.data.toList)) ∧ Below w.heap.size w w' := by
  obtain ⟨rc, x, rl⟩ := r
  have hh := heap_alloc_new w (.cells #[.int .i64 rc, .string x, .int .i64 rl] 53)
  have h1 := bl_block_cell hh 1
  have HB : Hid (Below w.heap.size w (w.alloc (.cells #[.int .i64 rc, .string x, .int .i64 rl] 53))) := (Below.refl _ _).alloc (Nat.le_refl _) _
  clear hh
  by_cases hx : x.data.toList = []
  · obtain ⟨e1, e2, e3, e4, e5⟩ := empty_facts hx
    have HV : Hid (emptyB x.data.toList = true) := by show _ = _; rw [hx]; rfl
    clear hx
    go_enter Tryd.func44, Tryd.ntmps44
    go_wp2_with fail
    go_ret
    exact ⟨by simp only []; rw [HV.out]; rfl, HB.out⟩
  · obtain ⟨e1, e2, e3, e4, e5⟩ := nonempty_facts hx
    have HV := Lib.hid (empty_head e5)
    have hx0 := index_zero x e5
    generalize (x[0]'e5).toNat = cc at hx0 HV
    clear hx
    go_enter Tryd.func44, Tryd.ntmps44
    go_wp2_with fail
    go_ret
    exact ⟨by simp only []; rw [HV.out]; rfl, HB.out⟩
set_option maxRecDepth 100000 in
theorem isempty_any (r : Rw) (w : World) : Calls Tryd.prog 79 #[.agg #[.int .i64 r.col, .string r.txt, .int .i64 r.ln]] w fun e w' => e = .returned (.bool (emptyB r.txt.data.toList)) ∧ Below w.heap.size w w' := by
  obtain ⟨rc, x, rl⟩ := r
  have hh := heap_alloc_new w (.cells #[.int .i64 rc, .string x, .int .i64 rl] 53)
  have h1 := bl_block_cell hh 1
  have HB : Hid (Below w.heap.size w (w.alloc (.cells #[.int .i64 rc, .string x, .int .i64 rl] 53))) := (Below.refl _ _).alloc (Nat.le_refl _) _
  clear hh
  by_cases hx : x.data.toList = []
  · obtain ⟨e1, e2, e3, e4, e5⟩ := empty_facts hx
    have HV : Hid (emptyB x.data.toList = true) := by show _ = _; rw [hx]; rfl
    clear hx
    go_enter Tryd.func79, Tryd.ntmps79
    go_wp2_with fail
    go_ret
    exact ⟨by simp only []; rw [HV.out]; rfl, HB.out⟩
  · obtain ⟨e1, e2, e3, e4, e5⟩ := nonempty_facts hx
    have HV := Lib.hid (empty_head e5)
    have hx0 := index_zero x e5
    generalize (x[0]'e5).toNat = cc at hx0 HV
    clear hx
    go_enter Tryd.func79, Tryd.ntmps79
    go_wp2_with fail
    go_ret
    exact ⟨by simp only []; rw [HV.out]; rfl, HB.out⟩
set_option maxRecDepth 100000 in
set_option maxHeartbeats 1600000 in
theorem rrow_any (x : ByteArray) (at_ : Int) (w : World) (hx : x.size ≤ 2000000) : Calls Tryd.prog 72 #[.string x, .int .i64 at_] w fun e w' => e = .returned (.agg #[.int .i64 (blanks x.data.toList : Nat), .string ⟨(textN x.data.toList).toArray⟩, .int .i64 at_]) ∧ Below w.heap.size w w' := by
  have HK0 := Lib.hid (Kept.first w 53 #[.int .i64 0, .string ⟨#[]⟩, .int .i64 0])
  go_enter Tryd.func72, Tryd.ntmps72
  go_wp2_with fail
  go_loop [5] (fun v => ∃ j : Nat, j ≤ x.size ∧ v = .int .i64 (j : Nat) ∧ Hid (∀ i, i < j → x.data.toList[i]? = some 32)) (fun v => x.size - (intOf v).toNat)
  case atStart => exact ⟨0, Nat.zero_le _, rfl, (fun i h => by omega)⟩
  case round =>
    obtain ⟨j, hj, rfl, hbl2⟩ := hrel
    have hcase : (∃ h : j < x.size, x.data.toList[j]'h = 32) ∨ ¬ (∃ h : j < x.size, x.data.toList[j]'h = 32) := Decidable.em _
    rcases hcase with ⟨hjl, hj32⟩ | hno
    · have hjl' : (j : Int) < (x.size : Int) := by omega
      have hix := index_at x j hjl
      rw [hj32] at hix
      have hix2 : ∀ W, (Instr.index 9 (.string x) (.int .i64 (j : Nat))).run Tryd.prog W = .ok (.int .u8 32) W := hix
      have HN : Hid (∀ i, i < j + 1 → x.data.toList[i]? = some 32) := fun i hi2 => by
        rcases Nat.lt_or_ge i j with h1 | h1
        · exact hbl2.out i h1
        · have : i = j := by omega
          subst this
          rw [List.getElem?_eq_getElem hjl, hj32]
      clear hix hj32 hbl2
      go_wp2_with fail
      go_round
      case rel => exact ⟨j + 1, by omega, by go_num, HN.out⟩
      case measure => simp [intOf]; omega
    · have HBJ : Hid (blanks x.data.toList = j) := blanks_step hbl2.out (fun h => hno (by
        obtain ⟨h1, h2⟩ := List.getElem?_eq_some_iff.1 h
        exact ⟨h1, h2⟩))
      have HT0 : Hid (Lib.trimRightB ((x.data.toList.take x.size).drop j) 32 = textN x.data.toList) := by
        show _ = _
        rw [show x.data.toList.take x.size = x.data.toList from List.take_length]
        unfold textN
        rw [trim_drop, HBJ.out]
      have hcj : j < x.size → ∃ c : UInt8, (∀ W, (Instr.index 9 (.string x) (.int .i64 (j : Nat))).run Tryd.prog W = .ok (.int .u8 (c.toNat : Int)) W) ∧ ((c.toNat : Int) == 32) = false := fun hjx => by
        refine ⟨x.data.toList[j]'hjx, index_at x j hjx, ?_⟩
        have h := byte_eq (x.data.toList[j]'hjx) 32
        rw [decide_eq_false (fun e => hno ⟨hjx, e⟩)] at h
        exact h
      clear hbl2 hno
      have hsplit : (j < x.size ∧ ∃ c : UInt8, (∀ W, (Instr.index 9 (.string x) (.int .i64 (j : Nat))).run Tryd.prog W = .ok (.int .u8 (c.toNat : Int)) W) ∧ ((c.toNat : Int) == 32) = false) ∨ ¬ j < x.size := by
        by_cases h : j < x.size
        · exact Or.inl ⟨h, hcj h⟩
        · exact Or.inr h
      clear hcj
      rcases hsplit with ⟨hjx, c, hixj, hq32⟩ | hjx
      · go_wp2_with fail
        go_loop [6] (fun u => ∃ e : Nat, u = .int .i64 (e : Nat) ∧ Hid (e ≤ x.size ∧ j ≤ e) ∧ Hid (Lib.trimRightB ((x.data.toList.take e).drop j) 32 = textN x.data.toList)) (fun u => (intOf u).toNat)
        case atStart => exact ⟨x.size, rfl, ⟨Nat.le_refl _, hj⟩, HT0.out⟩
        case round =>
          obtain ⟨e, rfl, he, htr⟩ := hrel
          have hes := he.out.1
          have hej := he.out.2
          by_cases he0 : e = j
          · obtain rfl : e = j := he0
            have hsl := slice_mid_any x e e (Nat.le_refl _) hes
            have hdec : decide (e < e) = false := decide_eq_false (Nat.lt_irrefl e)
            have HV : Hid ((⟨((x.data.toList.take e).drop e).toArray⟩ : ByteArray) = ⟨(textN x.data.toList).toArray⟩) := by
              show _ = _
              rw [← htr.out, List.drop_of_length_le (by rw [List.length_take]; omega)]; rfl
            obtain ⟨y, hy⟩ : ∃ y : ByteArray, (⟨((x.data.toList.take e).drop e).toArray⟩ : ByteArray) = y := ⟨_, rfl⟩
            rw [hy] at hsl HV
            clear htr hy
            go_wp2_with (refine wpList_store_row rfl 53 _ _ rfl w.heap.size #[.int .i64 (e : Nat), .string y, .int .i64 at_] rfl rfl 53 _ HK0.out.1 (by kernel_rfl) rfl (row_one _ _ _) ?_)
            have HZ := HK0.out.set #[.int .i64 (e : Nat), .string y, .int .i64 at_]
            have z0 := HZ.cell 0
            have z1 := HZ.cell 1
            have z2 := HZ.cell 2
            refine bodyPost_ret (v := .agg #[.int .i64 (e : Nat), .string y, .int .i64 at_]) (by simp [results, Tryd.results72, go_sem, z0, z1, z2]) rfl ⟨by rw [← HV.out, HBJ.out], HZ.2⟩
          · obtain ⟨m, rfl⟩ : ∃ m, e = m + 1 := ⟨e - 1, by omega⟩
            have hms : m < x.size := by omega
            obtain ⟨d, hd⟩ : ∃ c, x.data.toList[m]'hms = c := ⟨_, rfl⟩
            have hixd := index_at x m hms
            rw [hd] at hixd
            have hst := mid_next (l := x.data.toList) (b := j) (m := m) (by omega) hms
            rw [hd] at hst
            have HST := Lib.hid hst
            obtain ⟨k, hk⟩ : ∃ k, m + 1 = k := ⟨_, rfl⟩
            have hkm : (m : Int) = (k : Int) - 1 := by omega
            have hixd2 : ∀ W, (Instr.index 9 (.string x) (.int .i64 ((k : Int) - 1))).run Tryd.prog W = .ok (.int .u8 (d.toNat : Int)) W := by rw [← hkm]; exact hixd
            rw [hk] at htr HST hes hej ⊢
            have HK := Lib.hid hk
            have hk0 : (j : Int) < (k : Int) := by omega
            have hkd : decide (j < k) = true := decide_eq_true (by omega)
            have hkw : IntKind.i64.wrap ((k : Int) - 1) = (k : Int) - 1 := by rw [IntKind.wrap_i64]; omega
            clear hixd hd hst he hk he0
            by_cases hd32 : d = 32
            · have hq2 : ((d.toNat : Int) == 32) = true := by rw [hd32]; rfl
              have HT2 : Hid (Lib.trimRightB ((x.data.toList.take m).drop j) 32 = textN x.data.toList) := by show _ = _; rw [← htr.out, HST.out, trimR_snoc, if_pos hd32]
              clear hd32
              go_wp2_with fail
              go_round
              case rel => exact ⟨m, by rw [hkm], ⟨by omega, by omega⟩, HT2.out⟩
              case measure => simp [intOf]; omega
            · have hq2 : ((d.toNat : Int) == 32) = false := by
                have h := byte_eq d 32
                rw [decide_eq_false hd32] at h
                exact h
              have hsl := slice_mid_any x j k (by omega) hes
              have HV : Hid ((⟨((x.data.toList.take k).drop j).toArray⟩ : ByteArray) = ⟨(textN x.data.toList).toArray⟩) := by
                show _ = _
                rw [← htr.out, HST.out, trimR_snoc, if_neg hd32]
              obtain ⟨y, hy⟩ : ∃ y : ByteArray, (⟨((x.data.toList.take k).drop j).toArray⟩ : ByteArray) = y := ⟨_, rfl⟩
              rw [hy] at hsl HV
              clear htr hy hd32
              go_wp2_with (refine wpList_store_row rfl 53 _ _ rfl w.heap.size #[.int .i64 (j : Nat), .string y, .int .i64 at_] rfl rfl 53 _ HK0.out.1 (by kernel_rfl) rfl (row_one _ _ _) ?_)
              have HZ := HK0.out.set #[.int .i64 (j : Nat), .string y, .int .i64 at_]
              have z0 := HZ.cell 0
              have z1 := HZ.cell 1
              have z2 := HZ.cell 2
              refine bodyPost_ret (v := .agg #[.int .i64 (j : Nat), .string y, .int .i64 at_]) (by simp [results, Tryd.results72, go_sem, z0, z1, z2]) rfl ⟨by rw [← HV.out, HBJ.out], HZ.2⟩
      · go_wp2_with fail
        go_loop [6] (fun u => ∃ e : Nat, u = .int .i64 (e : Nat) ∧ Hid (e ≤ x.size ∧ j ≤ e) ∧ Hid (Lib.trimRightB ((x.data.toList.take e).drop j) 32 = textN x.data.toList)) (fun u => (intOf u).toNat)
        case atStart => exact ⟨x.size, rfl, ⟨Nat.le_refl _, hj⟩, HT0.out⟩
        case round =>
          obtain ⟨e, rfl, he, htr⟩ := hrel
          have hes := he.out.1
          have hej := he.out.2
          obtain rfl : e = j := by omega
          have hsl := slice_mid_any x e e (Nat.le_refl _) hes
          have hdec : decide (e < e) = false := decide_eq_false (Nat.lt_irrefl e)
          have HV : Hid ((⟨((x.data.toList.take e).drop e).toArray⟩ : ByteArray) = ⟨(textN x.data.toList).toArray⟩) := by
            show _ = _
            rw [← htr.out, List.drop_of_length_le (by rw [List.length_take]; omega)]; rfl
          obtain ⟨y, hy⟩ : ∃ y : ByteArray, (⟨((x.data.toList.take e).drop e).toArray⟩ : ByteArray) = y := ⟨_, rfl⟩
          rw [hy] at hsl HV
          clear htr hy
          go_wp2_with (refine wpList_store_row rfl 53 _ _ rfl w.heap.size #[.int .i64 (e : Nat), .string y, .int .i64 at_] rfl rfl 53 _ HK0.out.1 (by kernel_rfl) rfl (row_one _ _ _) ?_)
          have HZ := HK0.out.set #[.int .i64 (e : Nat), .string y, .int .i64 at_]
          have z0 := HZ.cell 0
          have z1 := HZ.cell 1
          have z2 := HZ.cell 2
          refine bodyPost_ret (v := .agg #[.int .i64 (e : Nat), .string y, .int .i64 at_]) (by simp [results, Tryd.results72, go_sem, z0, z1, z2]) rfl ⟨by rw [← HV.out, HBJ.out], HZ.2⟩
end Go.Proofs.YtnggbhpnpomfjaaDoor.Rw
