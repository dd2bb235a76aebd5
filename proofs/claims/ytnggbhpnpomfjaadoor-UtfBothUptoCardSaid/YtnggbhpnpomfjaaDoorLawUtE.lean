/- The laws 'UtfTurned' (what is decoded is encoded) and 'UtfBack' (what is encoded is decoded). Conditions: as the forms' reach gives them; the decoder's two tables are as they are laid. -/
import Derived.Test.YtnggbhpnpomfjaaDoorLawUtD
set_option linter.unusedVariables false
namespace Go.Proofs.YtnggbhpnpomfjaaDoor
open Go.RowKit Go.ChangeShapes Go.WideShapes Go.ChangeAt Go.Lib
section
variable {H : Type} {enc : TypeId × Value → H} {P : Program} {w : World} {base : Nat} {spare : Nat → Bool} {held : Bool}
/-- what the form's own reach says of numbers, to the last one -/
theorem ints_reach2 {ts : List TypeId} {ds : List (DataW H)} (h : (DataW.weightsEach P ts ds).all (· ≤ reachBytes) = true) {j : Nat} {t e : TypeId} {d : DataW H} {a : Option Addr} {len cap : Nat} {ps : List MemPlace} (ht : ts[j]? = some t) (hd : ds[j]? = some d)
    (hu : P.underlying t = some (.slice e)) (he : P.underlying e = some (.int .i64)) (ce : P.cellsOf e = 1) (hb : P.bytesOf e = 8) (hr : DataW.Trod enc P w base spare held t (.slice a len cap) d ps) : len ≤ 17592186043904 := by
  obtain ⟨fuel, hf⟩ := hr
  rcases open_ints hu he ce hf with ⟨hcs, _⟩ | ⟨x, l, c, zs, hcs, _, hl, hm, hzl, hx, _, _⟩
  · simp [Value.cells] at hcs
    omega
  · simp [Value.cells] at hcs
    obtain ⟨_, rfl, rfl⟩ := hcs
    simp only [Prod.mk.injEq] at hx
    obtain ⟨rfl, _⟩ := hx
    have hw := sized_slice h ht hd hu
    rw [hb] at hw
    unfold reachBytes at hw
    have hlz : len ≤ zs.length := by split at hzl <;> omega
    simp [lits] at hw
    omega
end
theorem fault_cases (l : List UInt8) : ((walkL okB l).2 < l.length ∧ faultV l (walkL okB l).2 = .agg #[.int .i64 8, .int .i64 ((walkL okB l).2 : Nat)] ∧ decL l = []) ∨
    ((walkL okB l).2 = l.length ∧ faultV l (walkL okB l).2 = .agg #[.int .i64 0, .int .i64 0] ∧ decL l = (walkL okB l).1) := by
  have := (walkL_le okB l.length l (Nat.le_refl _)).1
  unfold faultV decL
  by_cases h : (walkL okB l).2 < l.length
  · exact Or.inl ⟨h, by rw [if_pos h], by rw [if_neg (by omega)]⟩
  · exact Or.inr ⟨by omega, by rw [if_neg h], by rw [if_pos (by omega)]⟩
theorem okB_pos (n : Int) (h : okB n = true) : 0 ≤ n := by simpa [okB] using h
/-- a text without a fault is its signs' bytes -/
theorem whole_enc {l : List UInt8} (h : (walkL okB l).2 = l.length) : encL (walkL okB l).1 = l ∧ encOk (walkL okB l).1 = true ∧ ∀ n ∈ (walkL okB l).1, signB n = true := by
  have hw := walk_whole (p := okB) okB_pos l.length l (Nat.le_refl _)
  refine ⟨by rw [hw.1, h, List.take_length], ?_, fun n hn => (hw.2 n hn).1⟩
  unfold encOk
  rw [List.all_eq_true]
  exact fun n hn => (hw.2 n hn).1
theorem str_back (s : ByteArray) {l : List UInt8} (h : l = s.data.toList) : (⟨l.toArray⟩ : ByteArray) = s := by
  subst h; cases s; simp
set_option maxHeartbeats 1600000 in
theorem law_UtfTurned (w : World) (s : ByteArray) (z : s.size ≤ 1048576) (hT : Tabs w) :
    Calls Tryd.prog 7 #[.string s] w (LawPost w) := by
  have D1 := Lib.hid (got_text s (by omega) w hT)
  have AL := Lib.hid (fun W (hW : Below w.heap.size w W) => alive_any W (hT.below hW))
  have HE := Lib.hid fun A c zs W (g : IntsIn W A c zs) => encode_any A c zs W g
  clear hT
  unfold GotPost at D1
  have hln : s.data.toList.length = s.size := rfl
  rcases fault_cases s.data.toList with ⟨hk, hv, hd⟩ | ⟨hk, hv, hd⟩
  · rw [hv, hd] at D1
    rw [hln] at hk
    have hk' : (((walkL okB s.data.toList).2 : Nat) : Int) < (s.size : Int) := by omega
    simp only [List.length_nil] at D1
    generalize (walkL okB s.data.toList).2 = k at D1 hk hk'
    have h0 : (0 : Int) ≤ (k : Int) := by omega
    clear hv hd hln
    go_enter Tryd.func7, Tryd.ntmps7
    go_wp2_with fail
    refine D1.out.mono ?_
    rintro e w1 ⟨A, c, rfl, hi1, -, hb1⟩
    have HB1 := Lib.hid hb1
    have HK1 := Lib.hid (Kept.first w1 33 #[.int .i64 0, .int .i64 0])
    have HS1 := hb1.size
    clear hb1 hi1
    have HK2 := Lib.hid (HK1.out.set #[.int .i64 8, .int .i64 (k : Nat)])
    have q0 := HK2.out.cell 0
    have q1 := HK2.out.cell 1
    go_wp2_with (refine wpList_store_row rfl 33 _ _ rfl w1.heap.size #[.int .i64 8, .int .i64 (k : Nat)] rfl rfl 33 _ HK1.out.1 (by kernel_rfl) rfl (two_one _ _) ?_)
    refine (AL.out _ (HB1.out.trans (HK2.out.2.mono HS1))).mono ?_
    rintro e w8 ⟨rfl, hb8⟩
    have HB8 := Lib.hid ((HB1.out.trans (HK2.out.2.mono HS1)).trans (hb8.mono (HB1.out.trans (HK2.out.2.mono HS1)).size))
    clear hb8
    go_wp2_with fail
    go_ret
    exact ⟨rfl, HB8.out⟩
  · obtain ⟨hw1, hw2, hw3⟩ := whole_enc hk
    have hev : encV (decL s.data.toList) = .tuple #[.string s, .int .i64 0] := by
      unfold encV
      rw [hd, if_pos hw2, str_back s hw1]
    rw [hv] at D1
    generalize decL s.data.toList = zs at D1 hev
    have hs := strEq s
    clear hv hd hln hw1 hw2 hw3 hk
    go_enter Tryd.func7, Tryd.ntmps7
    go_wp2_with fail
    refine D1.out.mono ?_
    rintro e w1 ⟨A, c, rfl, hi1, -, hb1⟩
    have HB1 := Lib.hid hb1
    have HI1 := Lib.hid hi1
    have HK1 := Lib.hid (Kept.first w1 33 #[.int .i64 0, .int .i64 0])
    have HS1 := hb1.size
    clear hb1 hi1
    have HK2 := Lib.hid (HK1.out.set #[.int .i64 0, .int .i64 0])
    have q0 := HK2.out.cell 0
    have q1 := HK2.out.cell 1
    go_wp2_with (refine wpList_store_row rfl 33 _ _ rfl w1.heap.size #[.int .i64 0, .int .i64 0] rfl rfl 33 _ HK1.out.1 (by kernel_rfl) rfl (two_one _ _) ?_)
    have EC := HE.out _ _ _ _ (HI1.out.below HK2.out.2)
    rw [hev] at EC
    refine EC.mono ?_
    rintro e w3 ⟨rfl, hb3⟩
    have HB2 := Lib.hid (HB1.out.trans (HK2.out.2.mono HS1))
    have HB3 := Lib.hid (HB2.out.trans (hb3.mono HB2.out.size))
    clear hb3 EC
    go_wp2_with fail
    refine (AL.out _ HB3.out).mono ?_
    rintro e w8 ⟨rfl, hb8⟩
    have HB8 := Lib.hid (HB3.out.trans (hb8.mono HB3.out.size))
    clear hb8
    go_wp2_with fail
    go_ret
    exact ⟨rfl, HB8.out⟩
set_option maxHeartbeats 1600000 in
theorem law_UtfBack (w : World) (A : Option Addr) (c : Nat) (zs : List Int) (g : IntsIn w A c zs) (y : zs.length ≤ 17592186043904) (hT : Tabs w) :
    Calls Tryd.prog 8 #[.slice A zs.length c] w (LawPost w) := by
  have AL := Lib.hid (fun W (hW : Below w.heap.size w W) => alive_any W (hT.below hW))
  have HE := Lib.hid (encode_any A c zs w g)
  have G := Lib.hid g
  clear g
  by_cases hok : encOk zs = true
  · have hev : encV zs = .tuple #[.string ⟨(encL zs).toArray⟩, .int .i64 0] := by unfold encV; rw [if_pos hok]
    obtain ⟨s, hs⟩ : ∃ s : ByteArray, s = ⟨(encL zs).toArray⟩ := ⟨_, rfl⟩
    have hl : s.data.toList = encL zs := by rw [hs, str_of]
    have hz : s.size = (encL zs).length := by rw [hs, str_size]
    have hlz := encL_length zs
    have hall : ∀ n ∈ zs, signB n = true := by unfold encOk at hok; rw [List.all_eq_true] at hok; exact hok
    have hwk : walkL okB s.data.toList = (zs, s.data.toList.length) := by
      have := walk_enc (p := okB) [] zs fun n hn => ⟨hall n hn, by have := signB_iff.1 (hall n hn); simp [okB]; omega⟩
      rw [List.append_nil, walkL_nil] at this
      rw [hl, this]; simp
    have hwa : walkL allB s.data.toList = (zs, s.data.toList.length) := by
      have := walk_enc (p := allB) [] zs fun n hn => ⟨hall n hn, rfl⟩
      rw [List.append_nil, walkL_nil] at this
      rw [hl, this]; simp
    have hfv : faultV s.data.toList (walkL okB s.data.toList).2 = .agg #[.int .i64 0, .int .i64 0] := by
      rw [hwk]; unfold faultV; rw [if_neg (by simp)]
    have hdl : decL s.data.toList = zs := by unfold decL; rw [hwk]; simp
    have D1 : Hid (∀ W, Below w.heap.size w W → Calls Tryd.prog 28 #[.string s] W (fun e w' => ∃ (A : Option Addr) (c : Nat), e = .returned (.tuple #[.slice A zs.length c, .agg #[.int .i64 0, .int .i64 0]]) ∧ IntsIn w' A c zs ∧ Below W.heap.size W w')) := by
      intro W hW
      refine (decode_text s W (hT.below hW) (by omega) (by rw [hwk]; simp only; omega)).mono ?_
      rintro e w' ⟨A, c, rfl, ho, hb⟩
      rw [hdl] at ho ⊢
      rw [hfv]
      obtain ⟨A', c', he, hi⟩ := ints_own ho (fun n hn => by have := signB_iff.1 (hall n hn); omega) (by omega)
      cases he
      exact ⟨A, c, rfl, hi, hb⟩
    have CT : Hid (∀ W, Below w.heap.size w W → Calls Tryd.prog 26 #[.string s] W fun e w' => e = .returned (.int .i64 (zs.length : Nat)) ∧ Below W.heap.size W w') := by
      intro W hW
      have := count_text s W (hT.below hW) (by omega)
      rw [hwa] at this
      exact this
    have hq : ((zs.length : Int) == (zs.length : Int)) = true := beq_self_eq_true _
    rw [hev, ← hs] at HE
    clear hT hok hev hs hl hz hlz hall hwk hwa hfv hdl
    go_enter Tryd.func8, Tryd.ntmps8
    go_wp2_with fail
    refine HE.out.mono ?_
    rintro e w1 ⟨rfl, hb1⟩
    have HB1 := Lib.hid hb1
    have HG1 := Lib.hid (G.out.below hb1)
    clear hb1
    go_wp2_with fail
    refine (D1.out _ HB1.out).mono ?_
    rintro e w2 ⟨A', c', rfl, hi2, hb2⟩
    have HB2 := Lib.hid (HB1.out.trans (hb2.mono HB1.out.size))
    have HG2 := Lib.hid (HG1.out.below hb2)
    have HI2 := Lib.hid hi2
    have HK1 := Lib.hid (Kept.first w2 33 #[.int .i64 0, .int .i64 0])
    have HS2 := HB2.out.size
    clear hb2 hi2
    have HK2 := Lib.hid (HK1.out.set #[.int .i64 0, .int .i64 0])
    have q0 := HK2.out.cell 0
    have q1 := HK2.out.cell 1
    go_wp2_with (refine wpList_store_row rfl 33 _ _ rfl w2.heap.size #[.int .i64 0, .int .i64 0] rfl rfl 33 _ HK1.out.1 (by kernel_rfl) rfl (two_one _ _) ?_)
    refine (ints_same _ _ _ _ _ _ (HI2.out.below HK2.out.2) (HG2.out.below HK2.out.2)).mono ?_
    rintro e w3 ⟨rfl, hb3⟩
    have HB3 : Hid (Below w.heap.size w w3) := (HB2.out.trans (HK2.out.2.mono HS2)).trans (hb3.mono (HB2.out.trans (HK2.out.2.mono HS2)).size)
    clear hb3
    go_wp2_with fail
    refine (CT.out _ HB3.out).mono ?_
    rintro e w4 ⟨rfl, hb4⟩
    have HB4 := Lib.hid (HB3.out.trans (hb4.mono HB3.out.size))
    clear hb4
    go_wp2_with fail
    refine (AL.out _ HB4.out).mono ?_
    rintro e w8 ⟨rfl, hb8⟩
    have HB8 := Lib.hid (HB4.out.trans (hb8.mono HB4.out.size))
    clear hb8
    go_wp2_with fail
    go_ret
    exact ⟨rfl, HB8.out⟩
  · have hev : encV zs = .tuple #[.string ⟨#[]⟩, .int .i64 8] := by unfold encV; rw [if_neg hok]
    rw [hev] at HE
    have hs := strEq ⟨#[]⟩
    clear hT hok hev
    go_enter Tryd.func8, Tryd.ntmps8
    go_wp2_with fail
    refine HE.out.mono ?_
    rintro e w1 ⟨rfl, hb1⟩
    have HB1 := Lib.hid hb1
    clear hb1
    go_wp2_with fail
    refine (AL.out _ HB1.out).mono ?_
    rintro e w8 ⟨rfl, hb8⟩
    have HB8 := Lib.hid (HB1.out.trans (hb8.mono HB1.out.size))
    clear hb8
    go_wp2_with fail
    go_ret
    exact ⟨rfl, HB8.out⟩
end Go.Proofs.YtnggbhpnpomfjaaDoor
