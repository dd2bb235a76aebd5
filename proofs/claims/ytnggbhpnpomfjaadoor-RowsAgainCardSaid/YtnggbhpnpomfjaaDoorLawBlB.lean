/- The law 'BlockBack': what is laid is taken, at any column, whatever stands behind. Conditions: the decoder's tables as they are laid; the library's limit of a search stands in its variable. -/
import Derived.Test.YtnggbhpnpomfjaaDoorLawBlA
import Derived.Test.YtnggbhpnpomfjaaDoorBlOpenD
set_option linter.unusedVariables false
namespace Go.Proofs.YtnggbhpnpomfjaaDoor.Bl
open Go.RowKit
theorem rows_own {w : World} {base : Nat} {A : Option Addr} {c n : Nat} {rs : List Rw} (h : w.ownsRow base 53 3 (.slice A n c) n (rowVs rs)) (hn : rs.length = n) (hok : ∀ r ∈ rs, r.ok) : RowsIn w A c rs := by
  have hrng : ∀ i, i < rs.length → (rs.getD i rw0).ok := fun i hi => hok _ (by rw [List.getD_eq_getElem?_getD, List.getElem?_eq_getElem hi]; exact List.getElem_mem hi)
  rcases h.2 with ⟨he, h0⟩ | ⟨g, cap, cur, he, _, hh, hn', _, hc, ht⟩
  · simp only [Value.slice.injEq] at he
    obtain ⟨rfl, _, rfl⟩ := he
    exact ⟨fun i hi => by omega, hrng, by omega⟩
  · simp only [Value.slice.injEq] at he
    obtain ⟨rfl, _, rfl⟩ := he
    refine ⟨fun i hi => ?_, hrng, by omega⟩
    have e : ∀ j, j < n * 3 → w.cell? ⟨g, j, none⟩ = (rowVs rs)[j]? := fun j hj => by
      rw [bl_block_cell hh, ← Array.getElem?_toList, ← ht, List.getElem?_take, if_pos hj]
    obtain ⟨h1, h2, h3⟩ := rowVs_get rs i hi
    refine ⟨g, 0, rfl, bl_block_lt hh, ?_, ?_, ?_⟩
    · rw [Nat.zero_add, e _ (by omega), h1]
    · rw [Nat.zero_add, e _ (by omega), h2]
    · rw [Nat.zero_add, e _ (by omega), h3]
theorem atRows_mem {col : Int} {K : List (List UInt8)} {r : Rw} (h : r ∈ atRows col K) : ∃ k, k < K.length ∧ r = atRow col k (K.getD k []) := by
  obtain ⟨k, hk, rfl⟩ := List.getElem_of_mem h
  rw [atRows_length] at hk
  refine ⟨k, hk, ?_⟩
  have := atRows_get col K [] k hk
  rw [List.append_nil, List.getD_eq_getElem?_getD, List.getElem?_eq_getElem (by rw [atRows_length]; exact hk)] at this
  exact this
theorem atRows_ok {col : Int} {K : List (List UInt8)} (hc0 : 0 ≤ col) (hc1 : col ≤ 1000) (hl : K.length ≤ 100001) (hz : ∀ x ∈ K, x.length ≤ 100000) : ∀ r ∈ atRows col K, r.ok ∧ r.txt.size ≤ 100000 := by
  intro r hr
  obtain ⟨k, hk, rfl⟩ := atRows_mem hr
  have hx := hz (K.getD k []) (by rw [List.getD_eq_getElem?_getD, List.getElem?_eq_getElem hk]; exact List.getElem_mem hk)
  have hb := blanks_le (K.getD k [])
  refine ⟨?_, ?_⟩
  · unfold Rw.ok atRow
    simp only
    omega
  · show ((K.getD k []).drop _).length ≤ _
    rw [List.length_drop]; omega
theorem bulkT_bound {rs : List Rw} {M : Nat} (h : ∀ r ∈ rs, r.txt.size ≤ M) : bulkT rs ≤ rs.length * M := by
  induction rs with
  | nil => simp [bulkT]
  | cons r rs ih =>
    have h1 := h r (by simp)
    have h2 := ih (fun q hq => h q (by simp [hq]))
    unfold bulkT at *
    rw [List.map_cons, List.sum_cons, List.length_cons, Nat.succ_mul]
    omega
theorem bulkT_cat (rs qs : List Rw) : bulkT (rs ++ qs) = bulkT rs + bulkT qs := by unfold bulkT; rw [List.map_append, List.sum_append]
theorem atRows_txt {col : Int} {K : List (List UInt8)} {M : Nat} (hz : ∀ x ∈ K, x.length ≤ M) : ∀ r ∈ atRows col K, r.txt.size ≤ M := by
  intro r hr
  obtain ⟨k, hk, rfl⟩ := atRows_mem hr
  have hx := hz (K.getD k []) (by rw [List.getD_eq_getElem?_getD, List.getElem?_eq_getElem hk]; exact List.getElem_mem hk)
  show ((K.getD k []).drop _).length ≤ _
  rw [List.length_drop]; omega
theorem layL_len (l : List UInt8) : (layL l).length ≤ l.length + 1 ∧ ∀ x ∈ layL l, x.length ≤ l.length := by
  have h := splitT_len l
  have h2 := List.count_le_length (a := (10 : UInt8)) (l := l)
  have h3 := splitT_each l
  unfold layL
  split
  · exact ⟨by omega, h3⟩
  · exact ⟨by rw [List.length_dropLast]; omega, fun x hx => h3 x (List.dropLast_subset _ hx)⟩
theorem head_lies {y : List UInt8} {ys : List (List UInt8)} {cc : Int} (hcc : 0 ≤ cc) (h : flatL y = true) : ∀ r, (atRows 0 (y :: ys)).head? = some r → r.lies cc = true := by
  intro r hr
  have e : atRows 0 (y :: ys) = atRow 0 0 y :: (ys.mapIdx fun i x => atRow 0 (i + 1) x) := by unfold atRows; rw [List.mapIdx_cons]
  rw [e, List.head?_cons, Option.some.injEq] at hr
  subst hr
  have hb := blanks_flat h
  unfold Rw.lies Rw.em Rw.at_ atRow
  rw [hb]
  cases y with
  | nil => cases h
  | cons c t => simp; omega
end Go.Proofs.YtnggbhpnpomfjaaDoor.Bl
namespace Go.Proofs.YtnggbhpnpomfjaaDoor
open Go.RowKit Bl
set_option maxRecDepth 100000 in
set_option maxHeartbeats 6400000 in
theorem law_BlockBack (w : World) (s : ByteArray) (zs : s.size ≤ 140737488351232) (n : Nat) (hn : n < 256) (A : Option Addr) (c : Nat) (ss : List ByteArray) (g : Bl.StrsIn w A c ss) (hz : ∀ x ∈ ss, x.size ≤ 140737488355328) (hT : Tabs w) (mx : Int) (hS : w.cell? ⟨2, 0, none⟩ = some (.int .i64 mx)) :
    Calls Tryd.prog 18 #[.string s, .int .u8 (n : Nat), .slice A ss.length c] w (LawPost w) := by
  have AL := Lib.hid (fun W => Bl.alive_any W)
  have MU := Lib.hid (Bl.much_any A c ss w g hz)
  by_cases hm : s.size ≤ 5000
  case neg =>
    clear hT hS
    go_enter Tryd.func18, Tryd.ntmps18
    go_wp2_with fail
    refine (AL.out _).mono ?_
    rintro e w4 ⟨rfl, hb4⟩
    have HB4 := Lib.hid hb4
    clear hb4
    go_wp2_with fail
    go_ret
    exact ⟨rfl, HB4.out⟩
  case pos =>
    cases hmu : muchB ss with
    | true =>
      rw [hmu] at MU
      clear hT hS hmu hz
      go_enter Tryd.func18, Tryd.ntmps18
      go_wp2_with fail
      refine MU.out.mono ?_
      rintro e w1 ⟨rfl, rfl⟩
      go_wp2_with fail
      refine (AL.out _).mono ?_
      rintro e w4 ⟨rfl, hb4⟩
      have HB4 := Lib.hid hb4
      clear hb4
      go_wp2_with fail
      go_ret
      exact ⟨rfl, HB4.out⟩
    | false =>
      rw [hmu] at MU
      obtain ⟨hm1, hm2⟩ := much_false hmu
      have hline : ∀ x ∈ lns ss, x.length ≤ 20000 := fun x hx => by
        obtain ⟨k, hk, rfl⟩ := List.getElem_of_mem hx
        have := line_le (lns ss) k hk
        rw [List.getD_eq_getElem?_getD, List.getElem?_eq_getElem hk] at this
        exact Nat.le_trans this hm2
      have hlineS : ∀ x ∈ ss, x.size ≤ 100000 := fun x hx => by
        have := hline x.data.toList (List.mem_map.2 ⟨x, hx, rfl⟩)
        rw [Bl.bl_size] at this
        omega
      have G := Lib.hid g
      have T1 := Lib.hid (Bl.lay_any s w hT mx hS (block_lt_of_cell hS) (by omega))
      clear hT hS hmu hz g
      have hLL := layL_len s.data.toList
      rw [Bl.bl_size] at hLL
      cases hok : layOk s.data.toList with
      | false =>
        clear hLL hline hlineS hm1 hm2
        have HOK := Lib.hid hok
        clear hok
        go_enter Tryd.func18, Tryd.ntmps18
        go_wp2_with fail
        refine MU.out.mono ?_
        rintro e w1 ⟨rfl, rfl⟩
        go_wp2_with fail
        refine T1.out.mono ?_
        rintro e w2 ⟨hb2, ⟨_, rfl⟩ | ⟨h1, _⟩⟩
        case inr => rw [HOK.out] at h1; cases h1
        have HA2 := Lib.hid hb2
        have HL0 := Lib.hid (Kept.first w2 61 #[.bool false, .int .i64 0])
        have HL1 := Lib.hid (HL0.out.set #[.bool false, .int .i64 0])
        have HA3 := Lib.hid (HA2.out.trans (HL1.out.2.mono HA2.out.size))
        have g0 := HL1.out.cell 0
        have g1 := HL1.out.cell 1
        clear hb2
        go_wp2_with (refine wpList_store_row rfl 61 _ _ rfl w2.heap.size #[.bool false, .int .i64 0] rfl rfl 61 _ HL0.out.1 (by kernel_rfl) rfl (style_one _ _) ?_)
        refine (AL.out _).mono ?_
        rintro e w4 ⟨rfl, hb4⟩
        have HB4 := Lib.hid (HA3.out.trans (hb4.mono HA3.out.size))
        clear hb4
        go_wp2_with fail
        go_ret
        exact ⟨rfl, HB4.out⟩
      | true =>
        have HOK := Lib.hid hok
        obtain ⟨KS, hKS⟩ : ∃ KS, (layL s.data.toList).map (fun x => (⟨x.toArray⟩ : ByteArray)) = KS := ⟨_, rfl⟩
        have hlk : lns KS = layL s.data.toList := by rw [← hKS]; exact bl_map _
        have hkl : KS.length = (layL s.data.toList).length := by rw [← hKS, List.length_map]
        have hkz : ∀ x ∈ KS, x.size ≤ 100000 := fun x hx => by
          have := hLL.2 x.data.toList (by rw [← hlk]; exact List.mem_map.2 ⟨x, hx, rfl⟩)
          rw [Bl.bl_size] at this
          omega
        have hks : KS.length ≤ 5001 := by rw [hkl]; omega
        obtain ⟨C, hC⟩ : ∃ C, layC s.data.toList = C := ⟨_, rfl⟩
        have TK : Hid (∀ (B : List Rw), (∀ r, B.head? = some r → r.lies (n : Int) = true) → (∀ r ∈ B, r.txt.size ≤ 20000) → B.length ≤ 1000 → ∀ m, (atRows ((n : Int) + 1) (lns KS) ++ B).length = m → ∀ A c W, Bl.RowsIn W A c (atRows ((n : Int) + 1) (lns KS) ++ B) →
            Calls Tryd.prog 55 #[.slice A m c, .int .i64 (n : Nat), .agg #[.bool false, .int .i64 C]] W fun e w' => e = .returned (.tuple #[.string s, .int .i64 (KS.length : Nat), .agg #[.int .i64 0, .int .i64 0]]) ∧ Below W.heap.size W w') := by
          intro B hB hBz hBl m hmm A c W hr
          subst hmm
          have hlb := lay_back s.data.toList (n : Int) (by omega) B hok (by rw [Bl.bl_size]; omega) hB
          rw [← hlk, hC, show (lns KS).length = KS.length by rw [lns_length], Bl.bl_str] at hlb
          have h1 : (atRows ((n : Int) + 1) (lns KS) ++ B).length ≤ 10000 := by rw [List.length_append, atRows_length, lns_length]; omega
          have h2 : bulkT (atRows ((n : Int) + 1) (lns KS) ++ B) ≤ 100000000 := by
            rw [bulkT_cat]
            have h3 := bulkT_bound (atRows_txt (col := (n : Int) + 1) (K := lns KS) (M := 5000) (fun x hx => Nat.le_trans (hLL.2 x (by rw [← hlk]; exact hx)) hm))
            have h4 := bulkT_bound hBz
            rw [atRows_length, lns_length] at h3
            have h5 : KS.length * 5000 ≤ 5001 * 5000 := Nat.mul_le_mul_right _ hks
            have h6 : B.length * 20000 ≤ 1000 * 20000 := Nat.mul_le_mul_right _ hBl
            omega
          have := Bl.take_any A c _ (n : Int) false C W hr h1 h2
          rw [hlb] at this
          exact this
        have TK0 : Hid (∀ A c W, Bl.RowsIn W A c (atRows ((n : Int) + 1) (lns KS)) →
            Calls Tryd.prog 55 #[.slice A KS.length c, .int .i64 (n : Nat), .agg #[.bool false, .int .i64 C]] W fun e w' => e = .returned (.tuple #[.string s, .int .i64 (KS.length : Nat), .agg #[.int .i64 0, .int .i64 0]]) ∧ Below W.heap.size W w') := fun A c W hr => TK.out [] (fun r h => by simp at h) (fun r h => by simp at h) (Nat.zero_le _) KS.length (by rw [List.append_nil, atRows_length, lns_length]) A c W (by rw [List.append_nil]; exact hr)
        have AT1 : Hid (∀ A1 c1 W, StrsIn W A1 c1 KS → Calls Tryd.prog 54 #[.slice A1 KS.length c1, .int .i64 ((n : Int) + 1)] W fun e w' => ∃ row, e = .returned row ∧ AtPost W (atRows ((n : Int) + 1) (lns KS)) row w') := fun A1 c1 W h => Bl.at_any A1 c1 KS ((n : Int) + 1) W h (by omega) hkz (by omega) (by omega)
        have AT2 : Hid (∀ W, Below w.heap.size w W → Calls Tryd.prog 54 #[.slice A ss.length c, .int .i64 0] W fun e w' => ∃ row, e = .returned row ∧ AtPost W (atRows 0 (lns ss)) row w') := fun W h => Bl.at_any A c ss 0 W (G.out.below h) (by omega) hlineS (by omega) (by omega)
        have HL1N : Hid ((atRows ((n : Int) + 1) (lns KS)).length = KS.length) := by show _ = _; rw [atRows_length, lns_length]
        have HR1 : Hid (∀ r ∈ atRows ((n : Int) + 1) (lns KS), r.ok) := fun r hr => (atRows_ok (by omega) (by omega) (by rw [lns_length]; omega) (fun x hx => by have := hLL.2 x (by rw [← hlk]; exact hx); omega) r hr).1
        have HR2 : Hid (∀ r ∈ atRows 0 (lns ss), r.ok) := fun r hr => (atRows_ok (by omega) (by omega) (by rw [lns_length]; omega) (fun x hx => by have := hline x hx; omega) r hr).1
        have HR3 : Hid (∀ r ∈ atRows 0 (lns ss), r.txt.size ≤ 20000) := atRows_txt hline
        have HM1S := Lib.hid hm1
        have HKS := Lib.hid hKS
        have HKL := Lib.hid hkl
        have HCC := Lib.hid hC
        have q1 := Bl.strEq s
        have hwr : IntKind.i64.wrap (n : Int) = (n : Int) := by rw [IntKind.wrap_i64]; omega
        have hwr2 : IntKind.i64.wrap ((n : Int) + 1) = (n : Int) + 1 := by rw [IntKind.wrap_i64]; omega
        clear hLL hline hlineS hm1 hm2 hok hKS hlk hkl hkz hC
        go_enter Tryd.func18, Tryd.ntmps18
        go_wp2_with fail
        refine MU.out.mono ?_
        rintro e w1 ⟨rfl, rfl⟩
        go_wp2_with fail
        refine T1.out.mono ?_
        rintro e w2 ⟨hb2, ⟨h1, _⟩ | ⟨_, A1, c1, rfl, g1⟩⟩
        case inl => rw [HOK.out] at h1; cases h1
        rw [HKS.out] at g1
        rw [← HKL.out, HCC.out]
        have HA2 := Lib.hid hb2
        have HL0 := Lib.hid (Kept.first w2 61 #[.bool false, .int .i64 0])
        have HL1 := Lib.hid (HL0.out.set #[.bool false, .int .i64 C])
        have HA3 := Lib.hid (HA2.out.trans (HL1.out.2.mono HA2.out.size))
        have G3 := Lib.hid (g1.below HL1.out.2)
        clear hb2 g1
        go_wp2_with (refine wpList_store_row rfl 61 _ _ rfl w2.heap.size #[.bool false, .int .i64 C] rfl rfl 61 _ HL0.out.1 (by kernel_rfl) rfl (style_one _ _) ?_)
        generalize ((w2.alloc _).setRow _ _) = w3 at HL1 HA3 G3 ⊢
        refine (AT1.out _ _ _ G3.out).mono ?_
        rintro e w4 ⟨row1, rfl, hat1⟩
        have HA4 := Lib.hid (HA3.out.trans (hat1.2.mono HA3.out.size))
        have HL4 := Lib.hid (HL1.out.below hat1.2)
        have hown1 := hat1.1
        rw [HL1N.out] at hown1
        obtain ⟨B1, d1, rfl, hcap1⟩ := bl_own_len hown1
        have HO1 := Lib.hid hown1
        have RI1 := Lib.hid (rows_own hown1 HL1N.out HR1.out)
        have HW34 := Lib.hid hat1.2.size
        have g0 := HL4.out.cell 0
        have g1 := HL4.out.cell 1
        clear hat1 hown1
        rcases Nat.eq_zero_or_pos ss.length with h00 | hpos
        · have hnegd : decide (0 < ss.length) = false := decide_eq_false (by omega)
          have H00 := Lib.hid h00
          clear h00
          go_wp2_with fail
          refine (TK0.out _ _ _ RI1.out).mono ?_
          rintro e w6 ⟨rfl, hb6⟩
          have HA6 := Lib.hid (HA4.out.trans (hb6.mono HA4.out.size))
          have HM0 := Lib.hid (Kept.first w6 33 #[.int .i64 0, .int .i64 0])
          have HM1 := Lib.hid (HM0.out.set #[.int .i64 0, .int .i64 0])
          have HA7 := Lib.hid (HA6.out.trans (HM1.out.2.mono HA6.out.size))
          have m0 := HM1.out.cell 0
          have m1 := HM1.out.cell 1
          clear hb6
          go_wp2_with (refine wpList_store_row rfl 33 _ _ rfl w6.heap.size #[.int .i64 0, .int .i64 0] rfl rfl 33 _ HM0.out.1 (by kernel_rfl) rfl (two_one _ _) ?_)
          refine (AL.out _).mono ?_
          rintro e w8 ⟨rfl, hb8⟩
          have HB8 := Lib.hid (HA7.out.trans (hb8.mono HA7.out.size))
          clear hb8
          go_wp2_with fail
          go_ret
          exact ⟨rfl, HB8.out⟩
        · obtain ⟨y, ys, hss⟩ : ∃ y ys, ss = y :: ys := by
            cases ss with
            | nil => simp at hpos
            | cons y ys => exact ⟨y, ys, rfl⟩
          have G4 := Lib.hid (G.out.below HA4.out)
          obtain ⟨bk, off, hA, hbl, hcell⟩ := G4.out.at_ 0 hpos
          have hy0 : ss.getD 0 ByteArray.empty = y := by rw [hss]; rfl
          rw [hy0, Nat.add_zero] at hcell
          have hposI : (0 : Int) < (ss.length : Int) := by omega
          have hposd : decide (0 < ss.length) = true := decide_eq_true hpos
          have HSS := Lib.hid hss
          clear hss hy0
          subst hA
          by_cases hye : y.data.toList = []
          · obtain ⟨e1, e2, e3, e4, e5⟩ := empty_facts hye
            clear hye
            go_wp2_with fail
            refine (TK0.out _ _ _ RI1.out).mono ?_
            rintro e w6 ⟨rfl, hb6⟩
            have HA6 := Lib.hid (HA4.out.trans (hb6.mono HA4.out.size))
            have HM0 := Lib.hid (Kept.first w6 33 #[.int .i64 0, .int .i64 0])
            have HM1 := Lib.hid (HM0.out.set #[.int .i64 0, .int .i64 0])
            have HA7 := Lib.hid (HA6.out.trans (HM1.out.2.mono HA6.out.size))
            have m0 := HM1.out.cell 0
            have m1 := HM1.out.cell 1
            clear hb6
            go_wp2_with (refine wpList_store_row rfl 33 _ _ rfl w6.heap.size #[.int .i64 0, .int .i64 0] rfl rfl 33 _ HM0.out.1 (by kernel_rfl) rfl (two_one _ _) ?_)
            refine (AL.out _).mono ?_
            rintro e w8 ⟨rfl, hb8⟩
            have HB8 := Lib.hid (HA7.out.trans (hb8.mono HA7.out.size))
            clear hb8
            go_wp2_with fail
            go_ret
            exact ⟨rfl, HB8.out⟩
          · obtain ⟨e1, e2, e3, e4, e5⟩ := nonempty_facts hye
            have HF := Lib.hid (flat_byte e5)
            have hx0 := index_zero y e5
            obtain ⟨q, hq⟩ : ∃ q, (((y[0]'e5).toNat : Int) != 32) = q := ⟨_, rfl⟩
            rw [hq] at HF
            have hq2 : (((y[0]'e5).toNat : Int) == 32) = !q := by rw [← hq]; simp [bne]
            generalize (y[0]'e5).toNat = cc at hx0 hq2 hq
            clear hye
            cases q with
            | false =>
              simp only [Bool.not_false] at hq2
              go_wp2_with fail
              refine (TK0.out _ _ _ RI1.out).mono ?_
              rintro e w6 ⟨rfl, hb6⟩
              have HA6 := Lib.hid (HA4.out.trans (hb6.mono HA4.out.size))
              have HM0 := Lib.hid (Kept.first w6 33 #[.int .i64 0, .int .i64 0])
              have HM1 := Lib.hid (HM0.out.set #[.int .i64 0, .int .i64 0])
              have HA7 := Lib.hid (HA6.out.trans (HM1.out.2.mono HA6.out.size))
              have m0 := HM1.out.cell 0
              have m1 := HM1.out.cell 1
              clear hb6
              go_wp2_with (refine wpList_store_row rfl 33 _ _ rfl w6.heap.size #[.int .i64 0, .int .i64 0] rfl rfl 33 _ HM0.out.1 (by kernel_rfl) rfl (two_one _ _) ?_)
              refine (AL.out _).mono ?_
              rintro e w8 ⟨rfl, hb8⟩
              have HB8 := Lib.hid (HA7.out.trans (hb8.mono HA7.out.size))
              clear hb8
              go_wp2_with fail
              go_ret
              exact ⟨rfl, HB8.out⟩
            | true =>
              simp only [Bool.not_true] at hq2
              have HHL : Hid (∀ r, (atRows 0 (lns ss)).head? = some r → r.lies (n : Int) = true) := by
                show ∀ _, _
                rw [HSS.out]
                exact head_lies (by omega) HF.out
              clear HF
              go_wp2_with fail
              refine (AT2.out _ HA4.out).mono ?_
              rintro e w5 ⟨row2, rfl, hat2⟩
              have HA5 := Lib.hid (HA4.out.trans (hat2.2.mono HA4.out.size))
              have HL5 := Lib.hid (HL4.out.below hat2.2)
              have hown2 := hat2.1
              have hl2 : (atRows 0 (lns ss)).length = ss.length := by rw [atRows_length, lns_length]
              rw [hl2] at hown2
              have HL2N := Lib.hid hl2
              obtain ⟨B2, d2, rfl, hcap2⟩ := bl_own_len hown2
              obtain ⟨g2, hB2, hcells⟩ : ∃ g2, B2 = some ⟨g2, 0, none⟩ ∧ ∀ j u, (rowVs (atRows 0 (lns ss)))[j]? = some u → w5.cell? ((⟨g2, 0, none⟩ : Addr).add j) = some u := by
                rcases hown2.2 with ⟨he, h0⟩ | ⟨g, cap, cur, he, _, hh, hn', _, hc, ht⟩
                · omega
                · simp only [Value.slice.injEq] at he
                  obtain ⟨rfl, _, rfl⟩ := he
                  refine ⟨g, rfl, fun j u hj => ?_⟩
                  have e : ((⟨g, 0, none⟩ : Addr).add j) = ⟨g, j, none⟩ := by unfold Addr.add; split <;> simp_all
                  rw [e, bl_block_cell hh, ← Array.getElem?_toList]
                  have hlt := (List.getElem?_eq_some_iff.1 hj).1
                  rw [rowVs_len, hl2] at hlt
                  have : cur.toList[j]? = (rowVs (atRows 0 (lns ss)))[j]? := by rw [← ht, List.getElem?_take, if_pos hlt]
                  rw [this, hj]
              subst hB2
              have HCE := Lib.hid hcells
              have HO5 := Lib.hid (bl_own_below HO1.out hat2.2)
              have HW5 : Hid (w3.heap.size ≤ w5.heap.size) := Nat.le_trans HW34.out hat2.2.size
              have HKSL := Lib.hid hks
              clear hat2 hown2 hl2 hcells
              go_wp2_with (at_builtin; refine wpList_append_row rfl _ _ rfl w3.heap.size _ KS.length (atRows ((n : Int) + 1) (lns KS)) rfl HO5.out ⟨g2, 0, none⟩ ss.length d2 (atRows 0 (lns ss)) rfl HL2N.out HCE.out (by have := HKSL.out; omega) (by have := HM1S.out; omega) HW5.out ?_)
              intro v' w5' hown3 hgrow
              have HA5' : Hid (Below w.heap.size w w5') := HA5.out.grown hgrow HA5.out.size (fun g hg => Nat.le_trans HA3.out.size (HO5.out.lt g hg).1)
              have HLQ : Hid (Kept w2 w5' 61 #[.bool false, .int .i64 C]) := by
                have hb : Below w3.heap.size w5 w5' := (Below.refl _ _).grown hgrow HW5.out (fun g hg => (HO5.out.lt g hg).1)
                exact ⟨(hb.block _ (bl_block_lt HL1.out.1)).trans HL5.out.1, HL5.out.2.grown hgrow HL5.out.2.size (fun g hg => Nat.le_trans HL1.out.2.size (HO5.out.lt g hg).1)⟩
              obtain ⟨B3, d3, rfl, hcap3⟩ := bl_own_len hown3
              have HL3N : Hid ((atRows ((n : Int) + 1) (lns KS) ++ atRows 0 (lns ss)).length = KS.length + ss.length) := by show _ = _; rw [List.length_append, HL1N.out, HL2N.out]
              have RI3 := Lib.hid (rows_own hown3 HL3N.out (fun r hr => by
                rcases List.mem_append.1 hr with h | h
                · exact HR1.out r h
                · exact HR2.out r h))
              have k0 := HLQ.out.cell 0
              have k1 := HLQ.out.cell 1
              have HM2S : Hid ((atRows 0 (lns ss)).length ≤ 1000) := by show _ ≤ _; rw [HL2N.out]; exact HM1S.out
              clear hown3 hgrow g0 g1
              go_wp2_with fail
              refine (TK.out _ HHL.out HR3.out HM2S.out _ HL3N.out _ _ _ RI3.out).mono ?_
              rintro e w6 ⟨rfl, hb6⟩
              have HA6 := Lib.hid (HA5'.out.trans (hb6.mono HA5'.out.size))
              have HM0 := Lib.hid (Kept.first w6 33 #[.int .i64 0, .int .i64 0])
              have HM1 := Lib.hid (HM0.out.set #[.int .i64 0, .int .i64 0])
              have HA7 := Lib.hid (HA6.out.trans (HM1.out.2.mono HA6.out.size))
              have m0 := HM1.out.cell 0
              have m1 := HM1.out.cell 1
              clear hb6
              go_wp2_with (refine wpList_store_row rfl 33 _ _ rfl w6.heap.size #[.int .i64 0, .int .i64 0] rfl rfl 33 _ HM0.out.1 (by kernel_rfl) rfl (two_one _ _) ?_)
              refine (AL.out _).mono ?_
              rintro e w8 ⟨rfl, hb8⟩
              have HB8 := Lib.hid (HA7.out.trans (hb8.mono HA7.out.size))
              clear hb8
              go_wp2_with fail
              go_ret
              exact ⟨rfl, HB8.out⟩
end Go.Proofs.YtnggbhpnpomfjaaDoor
