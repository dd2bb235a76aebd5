/- The document's side: what a text resolves to; may a node have a text; is a kind a scalar's. Conditions: texts of no more than 2^44 bytes. -/
import Derived.Test.YtpgncjfmaeiaaaaDoorIsNum
import Derived.Test.YtpgncjfmaeiaaaaDoorIsNode
set_option linter.unusedVariables false
namespace Go.Proofs.YtpgncjfmaeiaaaaDoor.Is
open Go.RowKit
theorem rresolve_any (s : ByteArray) (w : World) (hs : s.size ≤ 17592186044416) : Calls Tryd.prog 47 #[.string s] w fun e w' => e = .returned (.int .i64 (resK s)) ∧ Hid (Below w.heap.size w w') := by
  have HN := Lib.hid (rnumber_any s w hs)
  unfold RNumPost at HN
  rw [numR_is] at HN
  by_cases h1 : s = sNil
  · subst h1
    have hr : resK sNil = 1 := rfl
    rw [hr]
    generalize numB sNil = nb at HN
    unfold sNil at HN ⊢
    go_enter Tryd.func47, Tryd.ntmps47
    go_wp2_with (go_at_call 53; (with_reducible refine HN.out.mono ?_); rintro e w1 ⟨n, rfl, hb⟩; have HB := Lib.hid hb; clear hb)
    go_ret
    exact ⟨rfl, HB.out⟩
  by_cases h2 : s = sTil
  · subst h2
    have hr : resK sTil = 1 := rfl
    rw [hr]
    generalize numB sTil = nb at HN
    unfold sTil at HN ⊢
    go_enter Tryd.func47, Tryd.ntmps47
    go_wp2_with (go_at_call 53; (with_reducible refine HN.out.mono ?_); rintro e w1 ⟨n, rfl, hb⟩; have HB := Lib.hid hb; clear hb)
    go_ret
    exact ⟨rfl, HB.out⟩
  by_cases h3 : s = sNul
  · subst h3
    have hr : resK sNul = 1 := rfl
    rw [hr]
    generalize numB sNul = nb at HN
    unfold sNul at HN ⊢
    go_enter Tryd.func47, Tryd.ntmps47
    go_wp2_with (go_at_call 53; (with_reducible refine HN.out.mono ?_); rintro e w1 ⟨n, rfl, hb⟩; have HB := Lib.hid hb; clear hb)
    go_ret
    exact ⟨rfl, HB.out⟩
  by_cases h4 : s = sTru
  · subst h4
    have hr : resK sTru = 2 := rfl
    rw [hr]
    generalize numB sTru = nb at HN
    unfold sTru at HN ⊢
    go_enter Tryd.func47, Tryd.ntmps47
    go_wp2_with (go_at_call 53; (with_reducible refine HN.out.mono ?_); rintro e w1 ⟨n, rfl, hb⟩; have HB := Lib.hid hb; clear hb)
    go_ret
    exact ⟨rfl, HB.out⟩
  by_cases h5 : s = sFal
  · subst h5
    have hr : resK sFal = 2 := rfl
    rw [hr]
    generalize numB sFal = nb at HN
    unfold sFal at HN ⊢
    go_enter Tryd.func47, Tryd.ntmps47
    go_wp2_with (go_at_call 53; (with_reducible refine HN.out.mono ?_); rintro e w1 ⟨n, rfl, hb⟩; have HB := Lib.hid hb; clear hb)
    go_ret
    exact ⟨rfl, HB.out⟩
  have hr : resK s = if numB s then 3 else 4 := by
    unfold resK
    rw [if_neg (by simp [h1, h2, h3]), if_neg (by simp [h4, h5])]
  rw [hr]
  have e1 : s.toList.isEmpty = false := str_ne h1
  have e2 : (s.toList == [126]) = false := by rw [← show sTil.toList = [126] from by decide +kernel, toList_eq_iff]; exact decide_eq_false h2
  have e3 : (s.toList == [110, 117, 108, 108]) = false := by rw [← show sNul.toList = [110, 117, 108, 108] from by decide +kernel, toList_eq_iff]; exact decide_eq_false h3
  have e4 : (s.toList == [116, 114, 117, 101]) = false := by rw [← show sTru.toList = [116, 114, 117, 101] from by decide +kernel, toList_eq_iff]; exact decide_eq_false h4
  have e5 : (s.toList == [102, 97, 108, 115, 101]) = false := by rw [← show sFal.toList = [102, 97, 108, 115, 101] from by decide +kernel, toList_eq_iff]; exact decide_eq_false h5
  clear hr h1 h2 h3 h4 h5
  generalize numB s = nb at HN ⊢
  cases nb
  all_goals
    go_enter Tryd.func47, Tryd.ntmps47
    go_wp2_with (go_at_call 53; (with_reducible refine HN.out.mono ?_); rintro e w1 ⟨n, rfl, hb⟩; have HB := Lib.hid hb; clear hb)
    go_ret
    exact ⟨rfl, HB.out⟩
theorem rscalar_any (k : Int) (w : World) : Calls Tryd.prog 44 #[.int .i64 k] w fun e w' => e = .returned (.bool (scalB k)) ∧ w = w' := by
  unfold scalB
  by_cases h1 : 1 ≤ k
  · rw [decide_eq_true h1, Bool.true_and]
    have h1I : (1 : Int) ≤ k := h1
    obtain ⟨R, hR⟩ : ∃ R, R = decide (k ≤ 4) := ⟨_, rfl⟩
    rw [← hR]
    have HR := Lib.hid hR
    clear hR
    go_enter Tryd.func44, Tryd.ntmps44
    go_wp2_with fail
    go_ret
    exact ⟨by rw [HR.out]; rfl, rfl⟩
  · rw [decide_eq_false h1, Bool.false_and]
    have h1I : ¬ ((1 : Int) ≤ k) := h1
    go_enter Tryd.func44, Tryd.ntmps44
    go_wp2_with fail
    go_ret
    exact ⟨rfl, rfl⟩
set_option maxHeartbeats 1600000 in
theorem rtxt_any (k : Int) (s : ByteArray) (w : World) (hs : s.size ≤ 1000000) : Calls Tryd.prog 43 #[.int .i64 k, .string s] w fun e w' => e = .returned (.bool (textB k s)) ∧ Hid (Below w.heap.size w w') := by
  have HRS := Lib.hid (rresolve_any s w (by omega))
  have hlen : (walkL okB s.data.toList).1.length ≤ s.size := by
    have h := walkL_le okB s.data.toList.length s.data.toList (Nat.le_refl _)
    have : s.data.toList.length = s.size := rfl
    omega
  have HDC := Lib.hid (rdecode_text s w (by omega) (by omega))
  by_cases h2 : k = 2
  · subst h2
    by_cases t1 : s = sTru
    · have ht : textB 2 s = true := by subst t1; rfl
      rw [ht]
      subst t1
      clear hlen HDC HRS ht
      unfold sTru
      go_enter Tryd.func43, Tryd.ntmps43
      go_wp2_with fail
      go_ret
      exact ⟨rfl, Below.refl _ _⟩
    by_cases t2 : s = sFal
    · have ht : textB 2 s = true := by subst t2; rfl
      rw [ht]
      subst t2
      clear hlen HDC HRS ht
      unfold sFal
      go_enter Tryd.func43, Tryd.ntmps43
      go_wp2_with fail
      go_ret
      exact ⟨rfl, Below.refl _ _⟩
    have ht : textB 2 s = false := by
      show decide (resK s = 2) = false
      refine decide_eq_false fun h => ?_
      unfold resK at h
      split at h
      · cases h
      · rw [if_neg (by simp [t1, t2])] at h
        split at h <;> cases h
    rw [ht]
    have e4 : (s.toList == [116, 114, 117, 101]) = false := by rw [← show sTru.toList = [116, 114, 117, 101] from by decide +kernel, toList_eq_iff]; exact decide_eq_false t1
    have e5 : (s.toList == [102, 97, 108, 115, 101]) = false := by rw [← show sFal.toList = [102, 97, 108, 115, 101] from by decide +kernel, toList_eq_iff]; exact decide_eq_false t2
    clear hlen HDC HRS ht t1 t2
    go_enter Tryd.func43, Tryd.ntmps43
    go_wp2_with fail
    go_ret
    exact ⟨rfl, Below.refl _ _⟩
  by_cases h3 : k = 3
  · subst h3
    have ht : textB 3 s = decide (resK s = 3) := rfl
    rw [ht]
    generalize resK s = r at HRS
    clear ht hlen HDC
    go_enter Tryd.func43, Tryd.ntmps43
    go_wp2_with fail
    refine HRS.out.mono ?_
    rintro e w1 ⟨rfl, hb⟩
    go_wp2_with fail
    go_ret
    exact ⟨rfl, hb⟩
  have b2 : (k == 2) = false := beq_eq_false_iff_ne.2 h2
  have b3 : (k == 3) = false := beq_eq_false_iff_ne.2 h3
  by_cases h4 : k = 4
  · subst h4
    clear HRS
    unfold DecPost at HDC
    by_cases hw : (walkL okB s.data.toList).2 = s.size
    · have ht : textB 4 s = true := by unfold textB; rw [if_neg (by omega), if_pos rfl]; exact decide_eq_true hw
      rw [ht]
      rw [faultV_ok hw] at HDC
      clear ht hlen hw
      generalize decL s.data.toList = zs at HDC
      go_enter Tryd.func43, Tryd.ntmps43
      go_wp2_with fail
      refine HDC.out.mono ?_
      rintro e w1 ⟨A, c, rfl, ho, hb⟩
      have HB := Lib.hid hb
      clear hb ho HDC
      have HR0 := Lib.hid (Kept.first w1 89 #[.int .i64 0, .int .i64 0])
      have HR1 := Lib.hid (HR0.out.set #[.int .i64 0, .int .i64 0])
      have r0 := HR1.out.cell 0
      have r1 := HR1.out.cell 1
      go_wp2_with (refine wpList_store_row rfl 89 _ _ rfl w1.heap.size #[.int .i64 0, .int .i64 0] rfl rfl 89 _ HR0.out.1 (by kernel_rfl) rfl (two_one _ _) ?_)
      go_ret
      exact ⟨rfl, HB.out.trans (HR1.out.2.mono HB.out.size)⟩
    · have ht : textB 4 s = false := by unfold textB; rw [if_neg (by omega), if_pos rfl]; exact decide_eq_false hw
      rw [ht]
      rw [faultV_no hw] at HDC
      clear ht hlen hw
      generalize decL s.data.toList = zs at HDC
      generalize (walkL okB s.data.toList).2 = at_ at HDC
      go_enter Tryd.func43, Tryd.ntmps43
      go_wp2_with fail
      refine HDC.out.mono ?_
      rintro e w1 ⟨A, c, rfl, ho, hb⟩
      have HB := Lib.hid hb
      clear hb ho HDC
      have HR0 := Lib.hid (Kept.first w1 89 #[.int .i64 0, .int .i64 0])
      have HR1 := Lib.hid (HR0.out.set #[.int .i64 8, .int .i64 (at_ : Nat)])
      have r0 := HR1.out.cell 0
      have r1 := HR1.out.cell 1
      go_wp2_with (refine wpList_store_row rfl 89 _ _ rfl w1.heap.size #[.int .i64 8, .int .i64 (at_ : Nat)] rfl rfl 89 _ HR0.out.1 (by kernel_rfl) rfl (two_one _ _) ?_)
      go_ret
      exact ⟨rfl, HB.out.trans (HR1.out.2.mono HB.out.size)⟩
  have b4 : (k == 4) = false := beq_eq_false_iff_ne.2 h4
  have ht : textB k s = decide (s = sNil) := by unfold textB; rw [if_neg (by omega), if_neg h4]
  rw [ht]
  clear HRS HDC ht hlen
  by_cases hs0 : s = sNil
  · rw [decide_eq_true hs0]
    subst hs0
    unfold sNil
    go_enter Tryd.func43, Tryd.ntmps43
    go_wp2_with fail
    go_ret
    exact ⟨rfl, Below.refl _ _⟩
  · rw [decide_eq_false hs0]
    have e1 : s.toList.isEmpty = false := str_ne hs0
    go_enter Tryd.func43, Tryd.ntmps43
    go_wp2_with fail
    go_ret
    exact ⟨rfl, Below.refl _ _⟩
end Go.Proofs.YtpgncjfmaeiaaaaDoor.Is
