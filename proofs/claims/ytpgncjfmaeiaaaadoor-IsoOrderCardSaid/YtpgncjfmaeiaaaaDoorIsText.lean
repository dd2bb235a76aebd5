/- Texts: numbers, what a text resolves to, may a text be a kind's. Conditions: the library's tables and its two errors as they are laid; texts of no more than 2^44 bytes. -/
import Derived.Test.YtpgncjfmaeiaaaaDoorIsKit
import Derived.Test.YtpgncjfmaeiaaaaDoorUtRDec
import Derived.Lib.SmallJoins
import Derived.Lib.AtoiAllCases
set_option linter.unusedVariables false
namespace Go.Proofs.YtpgncjfmaeiaaaaDoor.Is
open Go.RowKit
theorem block_lt_of_cell {w : World} {p : Addr} {v : Value} (h : w.cell? p = some v) : p.block < w.heap.size := by
  rcases Nat.lt_or_ge p.block w.heap.size with h' | h'
  · exact h'
  · unfold World.cell? at h
    rw [Array.getElem?_eq_none h'] at h
    cases h
def errCell (w : World) (g : Nat) : Prop := ∃ ev, w.cell? ⟨g, 0, none⟩ = some ev ∧ (ev = .nilIface ∨ ∃ te pe, ev = .iface te pe)
theorem errCell.below {w w' : World} {g : Nat} (h : errCell w g) (hb : Below w.heap.size w w') : errCell w' g := by
  obtain ⟨ev, h1, h2⟩ := h
  exact ⟨ev, (hb.cell (p := ⟨g, 0, none⟩) (block_lt_of_cell h1)).trans h1, h2⟩
/-- what the library's variables hold -/
structure Env (w : World) : Prop where
  tabs : Tabs w
  pow : Lib.TabIs Tryd.prog w "internal/strconv.uint64pow10" .u64 Lib.pow10Tab
  syn : errCell w 0
  rng : errCell w 1
theorem powNamed : Tryd.prog.globalNamed "internal/strconv.uint64pow10" = some 4 := by kernel_rfl
theorem Env.below {w w' : World} (h : Env w) (hb : Below w.heap.size w w') : Env w' :=
  ⟨h.tabs.below hb, Go.Joins.tab_stays powNamed h.pow hb (Nat.le_refl _), h.syn.below hb, h.rng.below hb⟩
theorem grow_below (w : World) (q : Nat) (os : Array Obj) : Below w.heap.size w (Go.Sort.grow (w.drewN q) os) :=
  ⟨rfl, rfl, rfl, by simp [Go.Sort.grow], fun i hi => by
    show ((w.drewN q).heap ++ os)[i]? = _
    rw [Array.getElem?_append_left (by show i < w.heap.size; omega)]
    rfl⟩
/-- a number's text is its own -/
def numB (s : ByteArray) : Bool := match Lib.atoiAll s.data.toList with
  | .ok v => decide ((⟨(Lib.itoa v).toArray⟩ : ByteArray) = s)
  | _ => false
theorem text_any (n : Int) (w : World) (E : Env w) (h : -9223372036854775808 ≤ n ∧ n ≤ 9223372036854775807) : Calls Tryd.prog 56 #[.int .i64 n] w fun e w' => e = .returned (.string ⟨(Lib.itoa n).toArray⟩) ∧ Hid (Below w.heap.size w w') := by
  have HI := Lib.hid (Tryd.strconv_Itoa n h.1 h.2 w E.pow)
  go_enter Tryd.func56, Tryd.ntmps56
  go_wp2_with fail
  refine HI.out.mono ?_
  rintro e w1 ⟨rfl, k, os, rfl⟩
  have HB : Hid (Below w.heap.size w (Go.Sort.grow (w.drewN k) os)) := grow_below w k os
  generalize (Go.Sort.grow (w.drewN k) os) = w1 at HB ⊢
  go_wp2_with fail
  go_ret
  exact ⟨rfl, HB.out⟩
def NumPost (s : ByteArray) (w : World) (e : Ending) (w' : World) : Prop := ∃ n : Int, e = .returned (.tuple #[.int .i64 n, .bool (numB s)]) ∧ Below w.heap.size w w'
theorem number_any (s : ByteArray) (w : World) (E : Env w) (hs : s.size ≤ 17592186044416) : Calls Tryd.prog 49 #[.string s] w (NumPost s w) := by
  unfold NumPost
  cases ha : Lib.atoiAll s.data.toList with
  | ok v =>
    have HA := Lib.hid (Tryd.strconv_Atoi_ok s (by omega) v ha w)
    have hv := Lib.atoiAll_bounds ha
    have TX : Hid (∀ W, Below w.heap.size w W → Calls Tryd.prog 56 #[.int .i64 v] W fun e w' => e = .returned (.string ⟨(Lib.itoa v).toArray⟩) ∧ Hid (Below W.heap.size W w')) := fun W hb => text_any v W (E.below hb) hv
    have hN : numB s = decide ((⟨(Lib.itoa v).toArray⟩ : ByteArray) = s) := by unfold numB; rw [ha]
    rw [hN]
    generalize (⟨(Lib.itoa v).toArray⟩ : ByteArray) = t at TX ⊢
    clear ha hN E
    by_cases hts : t = s
    · rw [decide_eq_true hts]
      subst hts
      go_enter Tryd.func49, Tryd.ntmps49
      go_wp2_with fail
      refine HA.out.mono ?_
      rintro e w1 ⟨rfl, hw1⟩
      have HB : Hid (Below w.heap.size w w1) := by
        rcases hw1 with rfl | ⟨t, rfl⟩
        · exact Below.refl _ _
        · exact Lib.bytesWorld_below w _ _
      clear hw1 HA
      go_wp2_with fail
      refine (TX.out _ HB.out).mono ?_
      rintro e w2 ⟨rfl, hb2⟩
      have HB2 : Hid (Below w.heap.size w w2) := HB.out.trans (hb2.out.mono HB.out.size)
      clear hb2
      go_wp2_with fail
      exact bodyPost_ret (v := .tuple #[.int .i64 v, .bool true]) (by simp [results, Tryd.results49, go_sem]) rfl ⟨_, rfl, HB2.out⟩
    · rw [decide_eq_false hts]
      have heq : (t.toList == s.toList) = false := by rw [toList_eq_iff]; exact decide_eq_false hts
      have HTS := Lib.hid hts
      clear hts
      go_enter Tryd.func49, Tryd.ntmps49
      go_wp2_with fail
      refine HA.out.mono ?_
      rintro e w1 ⟨rfl, hw1⟩
      have HB : Hid (Below w.heap.size w w1) := by
        rcases hw1 with rfl | ⟨t, rfl⟩
        · exact Below.refl _ _
        · exact Lib.bytesWorld_below w _ _
      clear hw1 HA
      go_wp2_with fail
      refine (TX.out _ HB.out).mono ?_
      rintro e w2 ⟨rfl, hb2⟩
      have HB2 : Hid (Below w.heap.size w w2) := HB.out.trans (hb2.out.mono HB.out.size)
      clear hb2
      go_wp2_with fail
      exact bodyPost_ret (v := .tuple #[.int .i64 0, .bool false]) (by simp [results, Tryd.results49, go_sem]) rfl ⟨_, rfl, HB2.out⟩
  | range =>
    obtain ⟨ev, h1, h2⟩ := E.rng
    have HA := Lib.hid (Tryd.strconv_Atoi_range s (by omega) ha ev w h1 h2)
    have hN : numB s = false := by unfold numB; rw [ha]
    rw [hN]
    clear ha hN E h1 h2
    generalize Lib.atoiSat s.data.toList = sat at HA
    go_enter Tryd.func49, Tryd.ntmps49
    go_wp2_with fail
    refine HA.out.mono ?_
    rintro e w1 ⟨N, rfl, hN1, hN2, hb⟩
    have HB := Lib.hid hb
    clear hb hN2 HA
    go_wp2_with fail
    exact bodyPost_ret (v := .tuple #[.int .i64 0, .bool false]) (by simp [results, Tryd.results49, go_sem]) rfl ⟨_, rfl, HB.out⟩
  | _ =>
    obtain ⟨ev, h1, h2⟩ := E.syn
    have HA := Lib.hid (Tryd.strconv_Atoi_syntax s (by omega) ha ev w h1 h2)
    have hN : numB s = false := by unfold numB; rw [ha]
    rw [hN]
    clear ha hN E h1 h2
    go_enter Tryd.func49, Tryd.ntmps49
    go_wp2_with fail
    refine HA.out.mono ?_
    rintro e w1 ⟨N, rfl, hN1, hN2, hb⟩
    have HB := Lib.hid hb
    clear hb hN2 HA
    go_wp2_with fail
    exact bodyPost_ret (v := .tuple #[.int .i64 0, .bool false]) (by simp [results, Tryd.results49, go_sem]) rfl ⟨_, rfl, HB.out⟩
def sNil : ByteArray := ⟨#[]⟩
def sTil : ByteArray := ⟨#[126]⟩
def sNul : ByteArray := ⟨#[110, 117, 108, 108]⟩
def sTru : ByteArray := ⟨#[116, 114, 117, 101]⟩
def sFal : ByteArray := ⟨#[102, 97, 108, 115, 101]⟩
theorem str_ne {s : ByteArray} (h : s ≠ sNil) : s.toList.isEmpty = false := by
  have h2 : (s.toList == sNil.toList) = false := by rw [toList_eq_iff]; exact decide_eq_false h
  have h3 : sNil.toList = [] := by decide +kernel
  rw [h3] at h2
  cases hl : s.toList with
  | nil => rw [hl] at h2; cases h2
  | cons a l => rfl
/-- what a text resolves to -/
def resK (s : ByteArray) : Int := if s = sNil ∨ s = sTil ∨ s = sNul then 1 else if s = sTru ∨ s = sFal then 2 else if numB s then 3 else 4
theorem resolve_any (s : ByteArray) (w : World) (E : Env w) (hs : s.size ≤ 17592186044416) : Calls Tryd.prog 45 #[.string s] w fun e w' => e = .returned (.int .i64 (resK s)) ∧ Hid (Below w.heap.size w w') := by
  have HN := Lib.hid (number_any s w E hs)
  by_cases h1 : s = sNil
  · subst h1
    have hr : resK sNil = 1 := rfl
    rw [hr]
    unfold sNil
    go_enter Tryd.func45, Tryd.ntmps45
    go_wp2_with fail
    go_ret
    exact ⟨rfl, Below.refl _ _⟩
  by_cases h2 : s = sTil
  · subst h2
    have hr : resK sTil = 1 := rfl
    rw [hr]
    unfold sTil
    go_enter Tryd.func45, Tryd.ntmps45
    go_wp2_with fail
    go_ret
    exact ⟨rfl, Below.refl _ _⟩
  by_cases h3 : s = sNul
  · subst h3
    have hr : resK sNul = 1 := rfl
    rw [hr]
    unfold sNul
    go_enter Tryd.func45, Tryd.ntmps45
    go_wp2_with fail
    go_ret
    exact ⟨rfl, Below.refl _ _⟩
  by_cases h4 : s = sTru
  · subst h4
    have hr : resK sTru = 2 := rfl
    rw [hr]
    unfold sTru
    go_enter Tryd.func45, Tryd.ntmps45
    go_wp2_with fail
    go_ret
    exact ⟨rfl, Below.refl _ _⟩
  by_cases h5 : s = sFal
  · subst h5
    have hr : resK sFal = 2 := rfl
    rw [hr]
    unfold sFal
    go_enter Tryd.func45, Tryd.ntmps45
    go_wp2_with fail
    go_ret
    exact ⟨rfl, Below.refl _ _⟩
  have hr : resK s = if numB s then 3 else 4 := by
    unfold resK
    rw [if_neg (by simp [h1, h2, h3]), if_neg (by simp [h4, h5])]
  rw [hr]
  have e1 : s.toList.isEmpty = false := str_ne h1
  have e2 : (s.toList == [126]) = false := by rw [← show sTil.toList = [126] from by decide +kernel, toList_eq_iff]; exact decide_eq_false h2
  have e3 : (s.toList == [110, 117, 108, 108]) = false := by rw [← show sNul.toList = [110, 117, 108, 108] from by decide +kernel, toList_eq_iff]; exact decide_eq_false h3
  have e4 : (s.toList == [116, 114, 117, 101]) = false := by rw [← show sTru.toList = [116, 114, 117, 101] from by decide +kernel, toList_eq_iff]; exact decide_eq_false h4
  have e5 : (s.toList == [102, 97, 108, 115, 101]) = false := by rw [← show sFal.toList = [102, 97, 108, 115, 101] from by decide +kernel, toList_eq_iff]; exact decide_eq_false h5
  clear hr h1 h2 h3 h4 h5
  unfold NumPost at HN
  generalize numB s = nb at HN ⊢
  cases nb
  all_goals
    go_enter Tryd.func45, Tryd.ntmps45
    go_wp2_with fail
    refine HN.out.mono ?_
    rintro e w1 ⟨n, rfl, hb⟩
    have HB := Lib.hid hb
    clear hb HN
    go_wp2_with fail
    go_ret
    exact ⟨rfl, HB.out⟩
/-- may a text be a kind's -/
def textB (k : Int) (s : ByteArray) : Bool := if k = 2 ∨ k = 3 then decide (resK s = k) else if k = 4 then decide ((walkL okB s.data.toList).2 = s.size) else decide (s = sNil)
theorem faultV_ok {s : ByteArray} (h : (walkL okB s.data.toList).2 = s.size) : faultV s.data.toList (walkL okB s.data.toList).2 = .agg #[.int .i64 0, .int .i64 0] := by
  unfold faultV
  rw [if_neg (by have : s.data.toList.length = s.size := rfl; omega)]
theorem faultV_no {s : ByteArray} (h : (walkL okB s.data.toList).2 ≠ s.size) : faultV s.data.toList (walkL okB s.data.toList).2 = .agg #[.int .i64 8, .int .i64 ((walkL okB s.data.toList).2 : Nat)] := by
  unfold faultV
  have := (walkL_le okB s.data.toList.length s.data.toList (Nat.le_refl _)).1
  rw [if_pos (by have : s.data.toList.length = s.size := rfl; omega)]
theorem istext_any (k : Int) (s : ByteArray) (w : World) (E : Env w) (hs : s.size ≤ 1000000) : Calls Tryd.prog 35 #[.int .i64 k, .string s] w fun e w' => e = .returned (.bool (textB k s)) ∧ Hid (Below w.heap.size w w') := by
  have HRS := Lib.hid (resolve_any s w E (by omega))
  have hlen : (walkL okB s.data.toList).1.length ≤ s.size := by
    have h := walkL_le okB s.data.toList.length s.data.toList (Nat.le_refl _)
    have : s.data.toList.length = s.size := rfl
    omega
  have HDC := Lib.hid (decode_text s w E.tabs (by omega) (by omega))
  by_cases h2 : k = 2
  · subst h2
    have ht : textB 2 s = decide (resK s = 2) := rfl
    rw [ht]
    generalize resK s = r at HRS
    clear ht E hlen HDC
    go_enter Tryd.func35, Tryd.ntmps35
    go_wp2_with fail
    refine HRS.out.mono ?_
    rintro e w1 ⟨rfl, hb⟩
    go_wp2_with fail
    go_ret
    exact ⟨rfl, hb⟩
  by_cases h3 : k = 3
  · subst h3
    have ht : textB 3 s = decide (resK s = 3) := rfl
    rw [ht]
    generalize resK s = r at HRS
    clear ht E hlen HDC
    go_enter Tryd.func35, Tryd.ntmps35
    go_wp2_with fail
    refine HRS.out.mono ?_
    rintro e w1 ⟨rfl, hb⟩
    go_wp2_with fail
    go_ret
    exact ⟨rfl, hb⟩
  have b2 : (k == 2) = false := beq_eq_false_iff_ne.2 h2
  have b3 : (k == 3) = false := beq_eq_false_iff_ne.2 h3
  by_cases h4 : k = 4
  · subst h4
    clear HRS
    unfold DecPost at HDC
    have hz0 := Lib.hid (heap_new w #[.int .i64 0, .int .i64 0] 89)
    by_cases hw : (walkL okB s.data.toList).2 = s.size
    · have ht : textB 4 s = true := by unfold textB; rw [if_neg (by omega), if_pos rfl]; exact decide_eq_true hw
      rw [ht]
      rw [faultV_ok hw] at HDC
      clear ht E hlen hw
      generalize decL s.data.toList = zs at HDC
      go_enter Tryd.func35, Tryd.ntmps35
      go_wp2_with fail
      refine HDC.out.mono ?_
      rintro e w1 ⟨A, c, rfl, ho, hb⟩
      have HB := Lib.hid hb
      clear hb ho HDC
      have HR0 := Lib.hid (Kept.first w1 89 #[.int .i64 0, .int .i64 0])
      have HR1 := Lib.hid (HR0.out.set #[.int .i64 0, .int .i64 0])
      have r0 := HR1.out.cell 0
      have r1 := HR1.out.cell 1
      go_wp2_with (refine wpList_store_row rfl 89 _ _ rfl w1.heap.size #[.int .i64 0, .int .i64 0] rfl rfl 89 _ HR0.out.1 (by kernel_rfl) rfl (two_one _ _) ?_)
      go_ret
      exact ⟨rfl, HB.out.trans (HR1.out.2.mono HB.out.size)⟩
    · have ht : textB 4 s = false := by unfold textB; rw [if_neg (by omega), if_pos rfl]; exact decide_eq_false hw
      rw [ht]
      rw [faultV_no hw] at HDC
      clear ht E hlen hw
      generalize decL s.data.toList = zs at HDC
      generalize (walkL okB s.data.toList).2 = at_ at HDC
      go_enter Tryd.func35, Tryd.ntmps35
      go_wp2_with fail
      refine HDC.out.mono ?_
      rintro e w1 ⟨A, c, rfl, ho, hb⟩
      have HB := Lib.hid hb
      clear hb ho HDC
      have HR0 := Lib.hid (Kept.first w1 89 #[.int .i64 0, .int .i64 0])
      have HR1 := Lib.hid (HR0.out.set #[.int .i64 8, .int .i64 (at_ : Nat)])
      have r0 := HR1.out.cell 0
      have r1 := HR1.out.cell 1
      go_wp2_with (refine wpList_store_row rfl 89 _ _ rfl w1.heap.size #[.int .i64 8, .int .i64 (at_ : Nat)] rfl rfl 89 _ HR0.out.1 (by kernel_rfl) rfl (two_one _ _) ?_)
      go_ret
      exact ⟨rfl, HB.out.trans (HR1.out.2.mono HB.out.size)⟩
  have b4 : (k == 4) = false := beq_eq_false_iff_ne.2 h4
  have ht : textB k s = decide (s = sNil) := by unfold textB; rw [if_neg (by omega), if_neg h4]
  rw [ht]
  clear HRS HDC ht hlen
  by_cases hs0 : s = sNil
  · rw [decide_eq_true hs0]
    subst hs0
    unfold sNil
    go_enter Tryd.func35, Tryd.ntmps35
    go_wp2_with fail
    go_ret
    exact ⟨rfl, Below.refl _ _⟩
  · rw [decide_eq_false hs0]
    have e1 : s.toList.isEmpty = false := str_ne hs0
    go_enter Tryd.func35, Tryd.ntmps35
    go_wp2_with fail
    go_ret
    exact ⟨rfl, Below.refl _ _⟩
end Go.Proofs.YtpgncjfmaeiaaaaDoor.Is
