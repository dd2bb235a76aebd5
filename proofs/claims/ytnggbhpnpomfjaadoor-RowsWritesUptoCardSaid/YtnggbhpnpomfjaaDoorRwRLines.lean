/- Walk: the document's Lines. Conditions: the text is no longer than 2000000 bytes. -/
import Derived.Test.YtnggbhpnpomfjaaDoorRwLines
set_option linter.unusedVariables false
namespace Go.Proofs.YtnggbhpnpomfjaaDoor.Rw
open Go.RowKit Bl
def doneL (l : List UInt8) (i : Nat) : List (List UInt8) := (splitT (l.take i)).dropLast.map cut13
structure LinesTo (l : List UInt8) (i f : Nat) : Prop where
  le : f ≤ i
  last : (splitT (l.take i)).getLastD [] = (l.take i).drop f
theorem LinesTo.start (l : List UInt8) : LinesTo l 0 0 := ⟨Nat.le_refl _, rfl⟩
theorem take_next {l : List UInt8} {i : Nat} (h : i < l.length) : l.take (i + 1) = l.take i ++ [l[i]'h] := List.take_succ_eq_append_getElem h
theorem LinesTo.no {l : List UInt8} {i f : Nat} (h : LinesTo l i f) (hi : i < l.length) (hc : l[i]'hi ≠ 10) : LinesTo l (i + 1) f ∧ doneL l (i + 1) = doneL l i := by
  have e := splitT_snoc (l.take i) (l[i]'hi)
  rw [if_neg hc] at e
  have hl : (l.take i).length = i := by rw [List.length_take]; omega
  unfold doneL
  rw [take_next hi, e]
  refine ⟨⟨by have := h.le; omega, ?_⟩, by rw [List.dropLast_concat]⟩
  rw [take_next hi, e, h.last, List.drop_append_of_le_length (by rw [hl]; exact h.le)]
  simp
theorem LinesTo.ten {l : List UInt8} {i f : Nat} (h : LinesTo l i f) (hi : i < l.length) (hc : l[i]'hi = 10) : LinesTo l (i + 1) (i + 1) ∧ doneL l (i + 1) = doneL l i ++ [cut13 ((l.take i).drop f)] := by
  have e := splitT_snoc (l.take i) (l[i]'hi)
  rw [if_pos hc] at e
  have hl : (l.take (i + 1)).length = i + 1 := by rw [List.length_take]; omega
  unfold doneL
  refine ⟨⟨Nat.le_refl _, ?_⟩, ?_⟩
  · rw [List.drop_of_length_le (by omega), take_next hi, e]
    simp
  · rw [take_next hi, e, List.dropLast_concat]
    have hne := splitT_ne (l.take i)
    have h2 := List.dropLast_concat_getLast hne
    have h3 : (splitT (l.take i)).getLast hne = (l.take i).drop f := by
      rw [← h.last, List.getLastD_eq_getLast?, List.getLast?_eq_some_getLast hne]; rfl
    rw [h3] at h2
    conv => lhs; rw [← h2]
    rw [List.map_append]
    rfl
theorem LinesTo.all {l : List UInt8} {f : Nat} (h : LinesTo l l.length f) : linesL l = doneL l l.length ++ (if f < l.length then [l.drop f] else []) := by
  have h1 := h.last
  rw [List.take_length] at h1
  unfold linesL doneL
  rw [List.take_length, h1]
  by_cases hf : f < l.length
  · rw [if_pos hf, if_neg (by intro e; have := congrArg List.length e; rw [List.length_drop] at this; simp at this; omega)]
  · rw [if_neg hf, if_pos (List.drop_of_length_le (by omega))]
theorem suffix_last (l : List UInt8) (b : UInt8) : Lib.hasSuffix l [b] = decide (l.getLast? = some b) := by
  unfold Lib.hasSuffix
  rw [List.isSuffixOf, List.getLast?_eq_head?_reverse]
  show ([b] : List UInt8).isPrefixOf l.reverse = _
  cases l.reverse with
  | nil => rfl
  | cons c t =>
    by_cases h : c = b
    · subst h; simp
    · have : ¬ (b = c) := fun e => h e.symm
      simp [List.isPrefixOf, h, this]
theorem cut_yes {l : List UInt8} {f i : Nat} (hf : f < i) (hi : i ≤ l.length) (h : l[i - 1]? = some 13) : cut13 ((l.take i).drop f) = (l.take (i - 1)).drop f := by
  have hl : i - 1 < l.length := by omega
  have e : l.take i = l.take (i - 1) ++ [13] := by
    have := take_next hl
    rw [show i - 1 + 1 = i by omega] at this
    rw [this]
    congr 2
    rw [List.getElem?_eq_getElem hl] at h
    exact Option.some.inj h
  rw [e, List.drop_append_of_le_length (by rw [List.length_take]; omega)]
  exact cut_ten _ 13
theorem cut_no {l : List UInt8} {f i : Nat} (hi : i ≤ l.length) (h : f < i → l[i - 1]? ≠ some 13) : cut13 ((l.take i).drop f) = (l.take i).drop f := by
  unfold cut13 Lib.trimSuffix
  rw [if_neg]
  rw [suffix_last]
  intro hd
  have hd := of_decide_eq_true hd
  have hfi : f < i := by
    rcases Nat.lt_or_ge f i with h1 | h1
    · exact h1
    · rw [List.drop_of_length_le (by rw [List.length_take]; omega)] at hd
      cases hd
  refine h hfi ?_
  rw [List.getLast?_eq_getElem?, List.getElem?_drop, List.length_drop, List.length_take, Nat.min_eq_left hi, show f + (i - f - 1) = i - 1 by omega, List.getElem?_take, if_pos (by omega)] at hd
  exact hd
theorem slice_mid_any (x : ByteArray) (f i : Nat) (hf : f ≤ i) (hi : i ≤ x.size) (W : World) : (Instr.sliceAt 9 (.string x) (some (.int .i64 (f : Nat))) (some (.int .i64 (i : Nat))) none).run Tryd.prog W = .ok (.string ⟨((x.data.toList.take i).drop f).toArray⟩) W := by
  rw [run_sliceAt_string W _ _ _ _ _ Tryd.underlying9]
  have hb1 : (Instr.sliceBound (.int .i64 (f : Nat)) i .sliceB).run Tryd.prog W = .ok f W := run_sliceBound _ .i64 (f : Nat) i .sliceB (by omega) (by omega)
  have hb2 : (Instr.sliceBound (.int .i64 (i : Nat)) x.size .sliceAlen).run Tryd.prog W = .ok i W := run_sliceBound _ .i64 (i : Nat) x.size .sliceAlen (by omega) (by omega)
  have hex : x.extract f i = ⟨((x.data.toList.take i).drop f).toArray⟩ := by
    refine bl_str_ext2 ?_
    rw [Lib.extract_data, List.drop_take]
  simp [Instr.slice, run_underlying Tryd.underlying9, Instr.sliceBounds, hb1, hb2, hex]
theorem append_str2 {w : World} {ops : Array Oper} {rest : List Oper} {o : Oper} {a : Act} {Q : Exit → Act → World → Prop} (hgd : o.guard = none) (s x : Operand) (ho : o.op = .call { callee := .builtin .append, args := #[s, x], argTypes := #[48, 48] })
    (base : Nat) (v : Value) (n : Nat) (L : List (List UInt8)) (hs : a.eval s = v) (hown : w.ownsRow base 9 1 v n (strVs L)) (str : ByteArray) (hx : a.eval x = .slice (some ⟨w.heap.size, 0, none⟩) 1 1) (hn : n ≤ 2000000) (hb : base ≤ w.heap.size)
    (h : ∀ v' w', w'.ownsRow base 9 1 v' (n + 1) (strVs L ++ [.string str]) → (w.alloc (.cells #[.string str] 9)).grownBy w' v.ownBlock → wpList Tryd.prog ops Q rest (a.put o.dst v') w') : wpList Tryd.prog ops Q (o :: rest) a (w.alloc (.cells #[.string str] 9)) := by
  obtain ⟨i0, hi, hz0, hz1, hz2⟩ := info_parts bl_infoStr
  refine wpList_append_own _ hgd s x 48 ho base 9 i0 (.string ⟨#[]⟩) 1 16 Tryd.underlying48 hi hz0 hz1 hz2 rfl (by decide) v n (strVs L) hs (bl_own_below hown ((Below.refl _ _).alloc (Nat.le_refl _) _)) ⟨w.heap.size, 0, none⟩ 1 1 [.string str] hx rfl ?_ ?_ (by unfold maxLen; omega) (by omega) (by simp; omega) (fun v' w' h1 h2 _ => h v' w' h1 h2)
  · intro j u hj
    rcases j with _ | j
    · simp at hj; subst hj
      simp [Addr.add]
    · simp at hj
  · intro u hu; simp at hu; subst hu; rfl
def LinesRow (w : World) (L : List (List UInt8)) (row : Value) (wr : World) : Prop := wr.ownsRow w.heap.size 9 1 row L.length (strVs L) ∧ Below w.heap.size w wr
set_option maxRecDepth 100000 in
set_option maxHeartbeats 3200000 in
theorem rlines_any (s : ByteArray) (w : World) (hs : s.size ≤ 2000000) : Calls Tryd.prog 38 #[.string s] w fun e w' => ∃ row, e = .returned row ∧ LinesRow w (linesL s.data.toList) row w' := by
  have HLN : Hid (s.data.toList.length = s.size) := rfl
  have H0 : Hid (LinesRow w (doneL s.data.toList 0) (.slice none 0 0) w) := ⟨World.ownsRow_nil w _ _ _, Below.refl _ _⟩
  have HF0 : Hid (LinesTo s.data.toList 0 0) := LinesTo.start _
  have HDN : Hid (∀ i, i ≤ s.size → (doneL s.data.toList i).length ≤ i) := fun i hi => by
    unfold doneL
    rw [List.length_map, List.length_dropLast, splitT_len]
    have := List.count_le_length (a := (10 : UInt8)) (l := s.data.toList.take i)
    rw [List.length_take] at this
    omega
  go_enter Tryd.func38, Tryd.ntmps38
  go_wp2_with fail
  go_loopw [3, 4, 5] (fun u f v wr => ∃ (k ff : Nat) (row : Value), k ≤ s.size ∧ row = u ∧ f = .int .i64 (ff : Nat) ∧ v = .int .i64 (k : Nat) ∧ Hid (LinesTo s.data.toList k ff) ∧ Hid (LinesRow w (doneL s.data.toList k) row wr)) (fun _ _ v _ => s.size - (intOf v).toNat)
  case atStart => exact ⟨0, 0, _, Nat.zero_le _, rfl, rfl, rfl, HF0.out, H0.out⟩
  case round =>
    obtain ⟨k, ff, row, hk, rfl, rfl, rfl, hto, hrow⟩ := hrel
    have hfk : ff ≤ k := hto.out.le
    by_cases hlt : k < s.size
    · have hlt' : (k : Int) < (s.size : Int) := by omega
      obtain ⟨c, hc⟩ : ∃ c, s.data.toList[k]'hlt = c := ⟨_, rfl⟩
      have hix := index_at s k hlt
      rw [hc] at hix
      have hix2 : ∀ W, (Instr.index 9 (.string s) (.int .i64 (k : Nat))).run Tryd.prog W = .ok (.int .u8 (c.toNat : Int)) W := hix
      by_cases hc10 : c = 10
      · have hq : ((c.toNat : Int) == 10) = true := by rw [hc10]; rfl
        have HT := Lib.hid (hto.out.ten hlt (by rw [hc]; exact hc10))
        obtain ⟨n, hnn⟩ : ∃ n, (doneL s.data.toList k).length = n := ⟨_, rfl⟩
        have hown := hrow.out.1
        rw [hnn] at hown
        have HO := Lib.hid hown
        have hws := hrow.out.2.size
        have hno : n ≤ 2000000 := by have := HDN.out k hk; omega
        have HNN := Lib.hid hnn
        have hkw : IntKind.i64.wrap ((k : Int) - 1) = (k : Int) - 1 := by rw [IntKind.wrap_i64]; omega
        clear hix hc hc10 hown hnn
        by_cases hfk2 : ff < k
        · have hfkI : (ff : Int) < (k : Int) := by omega
          have hkm : k - 1 < s.size := by omega
          obtain ⟨d, hd⟩ : ∃ c, s.data.toList[k - 1]'hkm = c := ⟨_, rfl⟩
          have hixd := index_at s (k - 1) hkm
          rw [hd, show ((k - 1 : Nat) : Int) = (k : Int) - 1 by omega] at hixd
          have hixd2 : ∀ W, (Instr.index 9 (.string s) (.int .i64 ((k : Int) - 1))).run Tryd.prog W = .ok (.int .u8 (d.toNat : Int)) W := hixd
          have HD : Hid (s.data.toList[k - 1]? = some d) := by show _ = _; rw [List.getElem?_eq_getElem hkm, hd]
          clear hixd hd
          by_cases hd13 : d = 13
          · have hq2 : ((d.toNat : Int) == 13) = true := by rw [hd13]; rfl
            have hcut := cut_yes hfk2 hk (by rw [HD.out, hd13])
            have hsl0 := slice_mid_any s ff (k - 1) (by omega) (by omega)
            obtain ⟨x, hx⟩ : ∃ x : ByteArray, (⟨((s.data.toList.take (k - 1)).drop ff).toArray⟩ : ByteArray) = x := ⟨_, rfl⟩
            have HX : Hid ((⟨(cut13 ((s.data.toList.take k).drop ff)).toArray⟩ : ByteArray) = x) := by show _ = _; rw [hcut, hx]
            rw [hx, show ((k - 1 : Nat) : Int) = (k : Int) - 1 by omega] at hsl0
            have hsl : ∀ W, (Instr.sliceAt 9 (.string s) (some (.int .i64 (ff : Nat))) (some (.int .i64 ((k : Int) - 1))) none).run Tryd.prog W = .ok (.string x) W := hsl0
            clear hsl0 hcut hx hd13 HD
            go_wp2_with (at_builtin; refine append_str2 rfl _ _ rfl w.heap.size row n (doneL s.data.toList k) rfl HO.out x rfl hno hws ?_)
            intro v' w2 hown hgrow
            have HS2 : Hid (LinesRow w (doneL s.data.toList (k + 1)) v' w2) := by
              refine ⟨?_, (hrow.out.2.alloc hws _).grown hgrow (by simp; omega) (fun g hg => (HO.out.lt g hg).1)⟩
              rw [HT.out.2, List.length_append, HNN.out]
              have e : strVs (doneL s.data.toList k ++ [cut13 ((s.data.toList.take k).drop ff)]) = strVs (doneL s.data.toList k) ++ [.string x] := by
                unfold strVs
                rw [List.map_append, List.map_cons, List.map_nil, HX.out]
              rw [e]
              exact hown
            clear hown hgrow
            go_wp2_with fail
            go_roundw
            case rel => exact ⟨k + 1, k + 1, v', by omega, rfl, by go_num, by go_num, HT.out.1, HS2.out⟩
            case measure => simp [intOf]; omega
          · have hq2 : ((d.toNat : Int) == 13) = false := by
              have h := byte_eq d 13
              rw [decide_eq_false hd13] at h
              exact h
            have hcut := cut_no (f := ff) (i := k) (l := s.data.toList) hk (fun _ => by rw [HD.out]; simpa using hd13)
            have hsl := slice_mid_any s ff k hfk (by omega)
            obtain ⟨x, hx⟩ : ∃ x : ByteArray, (⟨((s.data.toList.take k).drop ff).toArray⟩ : ByteArray) = x := ⟨_, rfl⟩
            have HX : Hid ((⟨(cut13 ((s.data.toList.take k).drop ff)).toArray⟩ : ByteArray) = x) := by show _ = _; rw [hcut, hx]
            rw [hx] at hsl
            clear hcut hx hd13 HD
            go_wp2_with (at_builtin; refine append_str2 rfl _ _ rfl w.heap.size row n (doneL s.data.toList k) rfl HO.out x rfl hno hws ?_)
            intro v' w2 hown hgrow
            have HS2 : Hid (LinesRow w (doneL s.data.toList (k + 1)) v' w2) := by
              refine ⟨?_, (hrow.out.2.alloc hws _).grown hgrow (by simp; omega) (fun g hg => (HO.out.lt g hg).1)⟩
              rw [HT.out.2, List.length_append, HNN.out]
              have e : strVs (doneL s.data.toList k ++ [cut13 ((s.data.toList.take k).drop ff)]) = strVs (doneL s.data.toList k) ++ [.string x] := by
                unfold strVs
                rw [List.map_append, List.map_cons, List.map_nil, HX.out]
              rw [e]
              exact hown
            clear hown hgrow
            go_wp2_with fail
            go_roundw
            case rel => exact ⟨k + 1, k + 1, v', by omega, rfl, by go_num, by go_num, HT.out.1, HS2.out⟩
            case measure => simp [intOf]; omega
        · have hfkd : decide (ff < k) = false := decide_eq_false hfk2
          have hcut := cut_no (f := ff) (i := k) (l := s.data.toList) hk (fun h => absurd h hfk2)
          have hsl := slice_mid_any s ff k hfk (by omega)
          obtain ⟨x, hx⟩ : ∃ x : ByteArray, (⟨((s.data.toList.take k).drop ff).toArray⟩ : ByteArray) = x := ⟨_, rfl⟩
          have HX : Hid ((⟨(cut13 ((s.data.toList.take k).drop ff)).toArray⟩ : ByteArray) = x) := by show _ = _; rw [hcut, hx]
          rw [hx] at hsl
          clear hcut hx
          go_wp2_with (at_builtin; refine append_str2 rfl _ _ rfl w.heap.size row n (doneL s.data.toList k) rfl HO.out x rfl hno hws ?_)
          intro v' w2 hown hgrow
          have HS2 : Hid (LinesRow w (doneL s.data.toList (k + 1)) v' w2) := by
            refine ⟨?_, (hrow.out.2.alloc hws _).grown hgrow (by simp; omega) (fun g hg => (HO.out.lt g hg).1)⟩
            rw [HT.out.2, List.length_append, HNN.out]
            have e : strVs (doneL s.data.toList k ++ [cut13 ((s.data.toList.take k).drop ff)]) = strVs (doneL s.data.toList k) ++ [.string x] := by
              unfold strVs
              rw [List.map_append, List.map_cons, List.map_nil, HX.out]
            rw [e]
            exact hown
          clear hown hgrow
          go_wp2_with fail
          go_roundw
          case rel => exact ⟨k + 1, k + 1, v', by omega, rfl, by go_num, by go_num, HT.out.1, HS2.out⟩
          case measure => simp [intOf]; omega
      · have hq : ((c.toNat : Int) == 10) = false := by
          have h := byte_eq c 10
          rw [decide_eq_false hc10] at h
          exact h
        have HT := Lib.hid (hto.out.no hlt (by rw [hc]; exact hc10))
        clear hix hc hc10
        go_wp2_with fail
        go_roundw
        case rel => exact ⟨k + 1, ff, row, by omega, rfl, rfl, by go_num, HT.out.1, by rw [HT.out.2]; exact hrow.out⟩
        case measure => simp [intOf]; omega
    · obtain rfl : k = s.size := by omega
      have HA : Hid (linesL s.data.toList = doneL s.data.toList s.size ++ (if ff < s.size then [s.data.toList.drop ff] else [])) := hto.out.all
      obtain ⟨n, hnn⟩ : ∃ n, (doneL s.data.toList s.size).length = n := ⟨_, rfl⟩
      have hown := hrow.out.1
      rw [hnn] at hown
      have HO := Lib.hid hown
      have hws := hrow.out.2.size
      have hno : n ≤ 2000000 := by have := HDN.out s.size (Nat.le_refl _); omega
      have HNN := Lib.hid hnn
      by_cases hf : ff < s.size
      · have hfI : (ff : Int) < (s.size : Int) := by omega
        have hsl := slice_from_any s ff (by omega)
        obtain ⟨x, hx⟩ : ∃ x : ByteArray, (⟨(s.data.toList.drop ff).toArray⟩ : ByteArray) = x := ⟨_, rfl⟩
        have HA2 : Hid (linesL s.data.toList = doneL s.data.toList s.size ++ [s.data.toList.drop ff]) := by show _ = _; rw [HA.out, if_pos hf]
        have HX := Lib.hid hx
        rw [hx] at hsl
        clear hx HA hown hnn
        go_wp2_with (at_builtin; refine append_str2 rfl _ _ rfl w.heap.size row n (doneL s.data.toList s.size) rfl HO.out x rfl hno hws ?_)
        intro v' w2 hown hgrow
        have HS2 : Hid (LinesRow w (linesL s.data.toList) v' w2) := by
          refine ⟨?_, (hrow.out.2.alloc hws _).grown hgrow (by simp; omega) (fun g hg => (HO.out.lt g hg).1)⟩
          rw [HA2.out, List.length_append, HNN.out]
          have e : strVs (doneL s.data.toList s.size ++ [s.data.toList.drop ff]) = strVs (doneL s.data.toList s.size) ++ [.string x] := by
            unfold strVs
            rw [List.map_append, List.map_cons, List.map_nil, HX.out]
          rw [e]
          exact hown
        clear hown hgrow
        obtain ⟨B, d, rfl, _⟩ := bl_own_len HS2.out.1
        go_wp2_with fail
        go_ret
        exact ⟨_, rfl, HS2.out⟩
      · have hfd : decide (ff < s.size) = false := decide_eq_false hf
        have HS2 : Hid (LinesRow w (linesL s.data.toList) row wr) := by show LinesRow _ _ _ _; rw [HA.out, if_neg hf, List.append_nil]; exact hrow.out
        clear hown hnn HA hrow
        obtain ⟨B, d, rfl, _⟩ := bl_own_len HS2.out.1
        go_wp2_with fail
        go_ret
        exact ⟨_, rfl, HS2.out⟩
end Go.Proofs.YtnggbhpnpomfjaaDoor.Rw
