/- The law 'BlockEnds': the ends of a block turn its text just behind its last line. Conditions: a text is no longer than the model's bound. -/
import Derived.Test.YtnggbhpnpomfjaaBlTakes
import Derived.Test.YtnggbhpnpomfjaaBlMarks
import Derived.Lib.ConvBytes
set_option linter.unusedVariables false
namespace Go.Proofs.Ytnggbhpnpomfjaa
open Go.RowKit
theorem ends_form {rs : List Rw} (hl : rs.length ≤ 10000) (hbk : bulkT rs ≤ 100000000) (col : Int) (f : Bool) :
    ∃ (a b c : ByteArray) (n x y : Int) (X Y : List UInt8), takeV rs col f 1 = .tuple #[.string a, .int .i64 n, .agg #[.int .i64 x, .int .i64 y]] ∧ takeV rs col f 0 = .tuple #[.string b, .int .i64 n, .agg #[.int .i64 x, .int .i64 y]] ∧ takeV rs col f 2 = .tuple #[.string c, .int .i64 n, .agg #[.int .i64 x, .int .i64 y]] ∧
      b.data.toList = a.data.toList ++ X ∧ c.data.toList = b.data.toList ++ Y ∧ X.length ≤ 1 ∧ Y.length ≤ 10000 ∧ (∀ z ∈ X ++ Y, z = 10) ∧ a.size ≤ 800000000 := by
  unfold takeV
  cases hbad : badAt rs (cntT rs col) with
  | some k => exact ⟨⟨#[]⟩, ⟨#[]⟩, ⟨#[]⟩, 0, 9, (rs.getD k rw0).ln, [], [], rfl, rfl, rfl, rfl, rfl, Nat.zero_le _, Nat.zero_le _, (fun z h => by cases h), Nat.zero_le _⟩
  | none =>
    have hnb : ∀ j, j < cntT rs col → badT rs j = false := by
      intro j hj
      have h := hbad
      unfold badAt at h
      rw [List.find?_range_eq_none] at h
      simpa using h j hj
    have hcl := cntT_le rs col
    generalize cntT rs col = n at hnb hcl ⊢
    have hes := endT_le rs n
    have hbulk := linesT_bulk rs (endT rs n) (by omega) fun j hj => hnb j (by omega)
    have hbt := bulkT_le rs (endT rs n)
    have hfl := foldL_le (linesT rs (endT rs n))
    have hjl := joinT_le (linesT rs (endT rs n))
    have hll := linesT_len rs (endT rs n)
    have hT : (if f = true then foldL (linesT rs (endT rs n)) else joinT (linesT rs (endT rs n))).length ≤ 800000000 := by split <;> omega
    have hdef : ∀ c : Int, textT rs n f c = (if f = true then foldL (linesT rs (endT rs n)) else joinT (linesT rs (endT rs n))) ++ (if c ≠ 1 ∧ 0 < endT rs n then [10] else []) ++ (if c = 2 then List.replicate (n - endT rs n) 10 else []) := fun _ => rfl
    generalize (if f = true then foldL (linesT rs (endT rs n)) else joinT (linesT rs (endT rs n))) = T at hT hdef
    have e1 : textT rs n f 1 = T := by
      rw [hdef, if_neg (fun h => h.1 rfl), if_neg (show ¬ ((1 : Int) = 2) by decide), List.append_nil, List.append_nil]
    have e0 : textT rs n f 0 = T ++ (if 0 < endT rs n then [10] else []) := by
      rw [hdef, if_neg (show ¬ ((0 : Int) = 2) by decide), List.append_nil]
      congr 1
      by_cases h : 0 < endT rs n
      · rw [if_pos ⟨by decide, h⟩, if_pos h]
      · rw [if_neg (fun h2 => h h2.2), if_neg h]
    have e2 : textT rs n f 2 = textT rs n f 0 ++ List.replicate (n - endT rs n) 10 := by
      rw [e0, hdef, if_pos rfl]
      congr 2
      by_cases h : 0 < endT rs n
      · rw [if_pos ⟨by decide, h⟩, if_pos h]
      · rw [if_neg (fun h2 => h h2.2), if_neg h]
    refine ⟨_, _, _, _, 0, 0, if 0 < endT rs n then [10] else [], List.replicate (n - endT rs n) 10, rfl, rfl, rfl, ?_, ?_, ?_, ?_, ?_, ?_⟩
    · show textT rs n f 0 = textT rs n f 1 ++ _
      rw [e0, e1]
    · exact e2
    · split <;> simp
    · rw [List.length_replicate]; omega
    · intro z hz
      rcases List.mem_append.1 hz with h | h
      · split at h
        · simpa using h
        · cases h
      · exact (List.mem_replicate.1 h).2
    · show (textT rs n f 1).length ≤ _
      rw [e1]; exact hT
theorem slice_to_str (s t : ByteArray) (X : List UInt8) (h : s.data.toList = t.data.toList ++ X) (W : World) : (Instr.sliceAt 9 (.string s) none (some (.int .i64 (t.size : Nat))) none).run Try.prog W = .ok (.string t) W := by
  have hz : t.size ≤ s.size := by rw [← bl_size, ← bl_size, h, List.length_append]; omega
  rw [run_sliceAt_string W _ _ _ _ _ Try.underlying9, run_slice_string_h W _ s Try.underlying9 .i64 (t.size : Nat) (by omega) (by omega)]
  congr 2
  refine bl_str_ext ?_
  rw [Lib.extract_data, h, Int.toNat_natCast, Nat.sub_zero, List.drop_zero, ← bl_size, List.take_left]
theorem slice_from_str (s t r : ByteArray) (h : s.data.toList = t.data.toList ++ r.data.toList) (W : World) : (Instr.sliceAt 9 (.string s) (some (.int .i64 (t.size : Nat))) none none).run Try.prog W = .ok (.string r) W := by
  have hz : t.size ≤ s.size := by rw [← bl_size, ← bl_size, h, List.length_append]; omega
  have hs : s.size = t.size + r.size := by rw [← bl_size, ← bl_size, ← bl_size, h, List.length_append]
  rw [run_sliceAt_string W _ _ _ _ _ Try.underlying9, run_slice_string_l W _ s Try.underlying9 .i64 (t.size : Nat) (by omega) (by omega)]
  congr 2
  refine bl_str_ext ?_
  rw [Lib.extract_data, h, Int.toNat_natCast, hs, Nat.add_sub_cancel_left]
  rw [show t.size = t.data.toList.length from rfl, List.drop_left, show r.size = r.data.toList.length from rfl, List.take_length]
theorem conv_str (r : ByteArray) (W : World) : ∃ g cap Wc, (convert 9 39 (.string r)).run Try.prog W = .ok (.slice (some ⟨g, 0, none⟩) r.size cap) Wc ∧ (∀ j, j < r.size → Wc.cell? ⟨g, j, none⟩ = some (.int .u8 ((r.data.toList.getD j 0).toNat : Int))) ∧ Below W.heap.size W Wc :=
  ⟨_, _, _, Lib.run_convert_string_bytes (P := Try.prog) W 9 39 5 r Try.underlying9 Try.underlying39 Try.underlying5, fun j hj => Lib.bytesWorld_cell W 5 r j hj,
    ⟨rfl, rfl, rfl, by rw [Lib.bytesWorld_size]; omega, fun j hj => Lib.bytesWorld_at_old W 5 r j hj⟩⟩
set_option maxRecDepth 100000 in
set_option maxHeartbeats 3200000 in
theorem law_BlockEnds (w : World) (A : Option Addr) (cp : Nat) (rs : List Rw) (g : RowsIn w A cp rs) (hz : ∀ r ∈ rs, r.txt.size ≤ 140737488355328) (col : Int) (hcol : -9223372036854775808 ≤ col ∧ col ≤ 9223372036854775807) (f : Bool) :
    Calls Try.prog 5 #[.slice A rs.length cp, .int .i64 col, .bool f] w (LawPost w) := by
  have WD := Lib.hid (wide_any A cp rs w g hz)
  have AL := Lib.hid (fun W => alive_any W)
  have G := Lib.hid g
  clear g hz
  cases hm : wideB rs with
  | true =>
    rw [hm] at WD
    clear hm
    go_enter Try.func5, Try.ntmps5
    go_wp2_with fail
    refine WD.out.mono ?_
    rintro e w1 ⟨rfl, hb1⟩
    have HB1 := Lib.hid hb1
    clear hb1
    go_wp2_with fail
    refine (AL.out _).mono ?_
    rintro e w4 ⟨rfl, hb4⟩
    have HB4 := Lib.hid (HB1.out.trans (hb4.mono HB1.out.size))
    clear hb4
    go_wp2_with fail
    go_ret
    exact ⟨rfl, HB4.out⟩
  | false =>
    rw [hm] at WD
    obtain ⟨h1, h2⟩ := wide_false hm
    have T1 := Lib.hid (fun W (hW : Below w.heap.size w W) => take_any A cp rs col f 1 W (G.out.below hW) (by omega) (by omega))
    have T2 := Lib.hid (fun W (hW : Below w.heap.size w W) => take_any A cp rs col f 0 W (G.out.below hW) (by omega) (by omega))
    have T3 := Lib.hid (fun W (hW : Below w.heap.size w W) => take_any A cp rs col f 2 W (G.out.below hW) (by omega) (by omega))
    obtain ⟨a, b, c, n, x, y, X, Y, v1, v2, v3, hab, hbc, hX, hY, hten, haz⟩ := ends_form (rs := rs) (by omega) (by omega) col f
    rw [v1] at T1
    rw [v2] at T2
    rw [v3] at T3
    obtain ⟨r, hr⟩ : ∃ r : ByteArray, r.data.toList = X ++ Y := ⟨⟨(X ++ Y).toArray⟩, by simp⟩
    have hbz : b.size = a.size + X.length := by rw [← bl_size, hab, List.length_append, bl_size]
    have hcz : c.size = b.size + Y.length := by rw [← bl_size, hbc, List.length_append, bl_size]
    have hrz : r.size = X.length + Y.length := by rw [← bl_size, hr, List.length_append]
    have s1 := slice_to_str b a X hab
    have s2 := slice_to_str c b Y hbc
    have s3 := slice_from_str c a r (by rw [hbc, hab, hr, List.append_assoc])
    have HTN : Hid (∀ j, j < r.size → (r.data.toList.getD j 0) = 10) := fun j hj => by
      have hj' : j < r.data.toList.length := hj
      refine hten _ ?_
      rw [← hr, List.getD_eq_getElem?_getD, List.getElem?_eq_getElem hj']
      exact List.getElem_mem hj'
    have l1 : ¬ (b.size < a.size) := by omega
    have l2 : ¬ (c.size < b.size) := by omega
    have l3 : b.size ≤ a.size + 1 := by omega
    have hrl : r.size ≤ 10001 := by omega
    have hbl : b.size ≤ 800000001 := by omega
    have q1 := strEq a
    have q0 := strEq b
    have q2 : (n == n) = true := beq_self_eq_true _
    have q3 : (x == x) = true := beq_self_eq_true _
    have q4 : (y == y) = true := beq_self_eq_true _
    have q5 : (n != n) = false := by simp
    clear hm v1 v2 v3 hab hbc hten hr hbz hcz hrz hX hY
    go_enter Try.func5, Try.ntmps5
    go_wp2_with fail
    refine WD.out.mono ?_
    rintro e w1 ⟨rfl, hb1⟩
    have HB1 := Lib.hid hb1
    clear hb1
    go_wp2_with fail
    refine (T1.out _ HB1.out).mono ?_
    rintro e w3 ⟨rfl, hb3⟩
    have HB3 := Lib.hid (HB1.out.trans (hb3.mono HB1.out.size))
    have HL0 := Lib.hid (Kept.first w3 32 #[.int .i64 0, .int .i64 0])
    have HL1 := Lib.hid (HL0.out.set #[.int .i64 x, .int .i64 y])
    have HB4 := Lib.hid (HB3.out.trans (HL1.out.2.mono HB3.out.size))
    clear hb3
    go_wp2_with (refine wpList_store_row rfl 32 _ _ rfl w3.heap.size #[.int .i64 x, .int .i64 y] rfl rfl 32 _ HL0.out.1 (by kernel_rfl) rfl (two_one _ _) ?_)
    generalize ((w3.alloc _).setRow _ _) = w4 at HL1 HB4 ⊢
    refine (T2.out _ HB4.out).mono ?_
    rintro e w5 ⟨rfl, hb5⟩
    have HB5 := Lib.hid (HB4.out.trans (hb5.mono HB4.out.size))
    have HL5 := Lib.hid (HL1.out.below hb5)
    have HM0 := Lib.hid (Kept.first w5 32 #[.int .i64 0, .int .i64 0])
    have HM1 := Lib.hid (HM0.out.set #[.int .i64 x, .int .i64 y])
    have HL6 := Lib.hid (HL5.out.below HM1.out.2)
    have HB6 := Lib.hid (HB5.out.trans (HM1.out.2.mono HB5.out.size))
    clear hb5
    go_wp2_with (refine wpList_store_row rfl 32 _ _ rfl w5.heap.size #[.int .i64 x, .int .i64 y] rfl rfl 32 _ HM0.out.1 (by kernel_rfl) rfl (two_one _ _) ?_)
    generalize ((w5.alloc _).setRow _ _) = w6 at HM1 HL6 HB6 ⊢
    refine (T3.out _ HB6.out).mono ?_
    rintro e w7 ⟨rfl, hb7⟩
    have HB7 := Lib.hid (HB6.out.trans (hb7.mono HB6.out.size))
    have HL7 := Lib.hid (HL6.out.below hb7)
    have HM7 := Lib.hid (HM1.out.below hb7)
    have HN0 := Lib.hid (Kept.first w7 32 #[.int .i64 0, .int .i64 0])
    have HN1 := Lib.hid (HN0.out.set #[.int .i64 x, .int .i64 y])
    have HL8 := Lib.hid (HL7.out.below HN1.out.2)
    have HM8 := Lib.hid (HM7.out.below HN1.out.2)
    have HB8 := Lib.hid (HB7.out.trans (HN1.out.2.mono HB7.out.size))
    clear hb7
    have p0 := HL8.out.cell 0
    have p1 := HL8.out.cell 1
    have p2 := HM8.out.cell 0
    have p3 := HM8.out.cell 1
    have p4 := HN1.out.cell 0
    have p5 := HN1.out.cell 1
    obtain ⟨gg, cap, Wc, hcv, hcell, hbc⟩ := conv_str r ((w7.alloc (.cells #[.int .i64 0, .int .i64 0] 32)).setRow w7.heap.size #[.int .i64 x, .int .i64 y])
    have HCC := Lib.hid hcell
    have HB9 := Lib.hid (HB8.out.trans (hbc.mono HB8.out.size))
    clear hcell hbc
    go_wp2_with (refine wpList_store_row rfl 32 _ _ rfl w7.heap.size #[.int .i64 x, .int .i64 y] rfl rfl 32 _ HN0.out.1 (by kernel_rfl) rfl (two_one _ _) ?_)
    clear p0 p1 p2 p3 p4 p5 hcv
    go_loop [100] (fun u => ∃ j : Nat, j ≤ r.size ∧ u = .int .i64 (j : Nat)) (fun u => r.size - (intOf u).toNat)
    case atStart => exact ⟨0, Nat.zero_le _, rfl⟩
    case round =>
      obtain ⟨j, hj, rfl⟩ := hrel
      by_cases hlt : j < r.size
      · have hlt' : (j : Int) < (r.size : Int) := by omega
        have hc := HCC.out j hlt
        rw [HTN.out j hlt] at hc
        have hc' : Wc.cell? ⟨gg, j, none⟩ = some (.int .u8 10) := hc
        clear hc
        go_wp2_with fail
        go_round
        case rel => exact ⟨j + 1, by omega, by go_num⟩
        case measure => simp [intOf]; omega
      · obtain rfl : r.size = j := by omega
        go_wp2_with fail
        refine (AL.out _).mono ?_
        rintro e w10 ⟨rfl, hb10⟩
        have HB10 := Lib.hid (HB9.out.trans (hb10.mono HB9.out.size))
        clear hb10
        go_wp2_with fail
        go_ret
        exact ⟨rfl, HB10.out⟩
end Go.Proofs.Ytnggbhpnpomfjaa
