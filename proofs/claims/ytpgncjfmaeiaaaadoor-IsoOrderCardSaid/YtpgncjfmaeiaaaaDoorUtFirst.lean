/- Walks: the search for the first sign, the program's and the document's. Conditions: strings within the model's bounds; for the program's the decoder's two tables as they are laid. -/
import Derived.Test.YtpgncjfmaeiaaaaDoorUtRef
import Derived.Test.YtpgncjfmaeiaaaaDoorShelf
set_option linter.unusedVariables false
namespace Go.Proofs.YtpgncjfmaeiaaaaDoor
open Go.RowKit
theorem below_dr {B : Nat} {a w : World} (h : Below B a w) (n : Nat) : Below B a (w.drewN n) := h.trans ⟨rfl, rfl, rfl, Nat.le_refl _, fun _ _ => rfl⟩
theorem sign_is (n : Int) (b : Bool) (hb : signB n = b) (w : World) : Calls Tryd.prog 60 #[.int .i64 n] w fun e w' => e = .returned (.bool b) ∧ w = w' := by subst hb; exact sign_any n w
theorem begins_is (s : ByteArray) (n : Int) (b : Bool) (w : World) (h : signB n = true) (hm : s.size ≤ 9223372036854775807) (hb : decide (s.data.toList.take (Lib.encodeRune n).length = Lib.encodeRune n) = b) :
    Calls Tryd.prog 62 #[.string s, .int .i64 n] w fun e w' => e = .returned (.bool b) ∧ Below w.heap.size w w' := by subst hb; exact begins_any s n w h hm
def FirstPost (l : List UInt8) (w : World) (e : Ending) (w' : World) : Prop := e = .returned (.tuple #[.int .i64 (firstL l).1, .int .i64 ((firstL l).2 : Nat)]) ∧ Below w.heap.size w w'
set_option maxHeartbeats 1600000 in
theorem rfirst_any (s : ByteArray) (w : World) (hm : s.size ≤ 9223372036854775807) :
    Calls Tryd.prog 54 #[.string s] w (FirstPost s.data.toList w) := by
  by_cases h0 : s.data.toList = []
  · have he : s.toList.isEmpty = true := by rw [Lib.toList_data, h0]; rfl
    have hf : Hid (firstL s.data.toList = (-1, 0)) := by show _ = _; rw [h0]; rfl
    have he2 : s.toList = [] := by rw [Lib.toList_data]; exact h0
    clear h0
    go_enter Tryd.func54, Tryd.ntmps54
    go_wp2
    go_ret2
    exact ⟨by rw [hf.out]; rfl, Below.refl _ _⟩
  · have he : s.toList.isEmpty = false := by
      rw [Lib.toList_data]
      cases h : s.data.toList with
      | nil => exact absurd h h0
      | cons _ _ => rfl
    have he2 : (s.toList == []) = false := by rw [Lib.toList_data, beq_eq_false_iff_ne]; exact h0
    have HLN : Hid (s.data.toList.length = s.size) := rfl
    have HF : Hid (firstRF s.data.toList (min 4 s.size) 1 = firstL s.data.toList) := by
      show _ = _
      rw [← firstR_eq, ← HLN.out]; unfold firstR; rw [if_neg h0]
    have hpos : 1 ≤ s.size := by rw [← HLN.out]; exact List.length_pos_iff.2 h0
    have HM := Lib.hid hm
    clear h0 hm
    go_enter Tryd.func54, Tryd.ntmps54
    go_wp2_with fail
    go_loopw [4] (fun v wr => ∃ m k : Nat, 1 ≤ m ∧ m + k = min 4 s.size + 1 ∧ v = .int .i64 (m : Nat) ∧ Hid (firstRF s.data.toList k m = firstL s.data.toList) ∧ Hid (Below w.heap.size w wr)) (fun v _ => 6 - (intOf v).toNat)
    case atStart => exact ⟨1, min 4 s.size, Nat.le_refl _, by omega, rfl, HF.out, Below.refl _ _⟩
    case round =>
      obtain ⟨m, k, hm1, hmk, rfl, hr, hb⟩ := hrel
      cases k with
      | zero =>
        have hr' : Hid (firstL s.data.toList = (-1, 1)) := hr.out.symm
        clear hr
        by_cases h4 : m ≤ 4
        · have e1 : (m : Int) ≤ 4 := by omega
          have e2 : decide ((m : Int) ≤ (s.size : Int)) = false := by simp; omega
          have e3 : decide (m ≤ s.size) = false := by simp; omega
          clear hmk h4
          go_wp2_with fail
          go_ret2
          exact ⟨by rw [hr'.out]; rfl, hb.out⟩
        · have e1 : decide ((m : Int) ≤ 4) = false := by simp; omega
          have e3 : decide (m ≤ 4) = false := by simp; omega
          clear hmk h4
          go_wp2_with fail
          go_ret2
          exact ⟨by rw [hr'.out]; rfl, hb.out⟩
      | succ k =>
        have e1 : (m : Int) ≤ 4 := by omega
        have e2 : (m : Int) ≤ (s.size : Int) := by omega
        have e3 : m ≤ s.size := by omega
        have G := Lib.hid (guess_any s m wr hm1 (by omega) e3 HM.out)
        have hstep : condB s.data.toList m = true → firstL s.data.toList = (guessL s.data.toList m, m) := fun h => by
          have := hr.out; simp only [firstRF, h, if_true] at this; exact this.symm
        have hnext : condB s.data.toList m = false → firstRF s.data.toList k (m + 1) = firstL s.data.toList := fun h => by
          have := hr.out; simp only [firstRF, h, Bool.false_eq_true, if_false] at this; exact this
        have hcond : condB s.data.toList m = (signB (guessL s.data.toList m) && decide ((Lib.encodeRune (guessL s.data.toList m)).length = m) && decide (s.data.toList.take m = Lib.encodeRune (guessL s.data.toList m))) := rfl
        have HST := Lib.hid hstep
        have HNX := Lib.hid hnext
        have HC := Lib.hid hcond
        have HGB := gAt_bound s.data.toList m (m - 1) (by omega)
        have HMK := Lib.hid hmk
        clear hr hstep hnext hcond hmk
        change -1000000000 ≤ guessL s.data.toList m ∧ guessL s.data.toList m ≤ 1000000000 at HGB
        generalize guessL s.data.toList m = g at G HST HC HGB
        obtain ⟨hg1, hg2⟩ := HGB
        go_wp2_with fail
        refine G.out.mono ?_
        rintro e w1 ⟨rfl, hb1⟩
        have HB1 := Lib.hid (hb.out.trans (hb1.mono hb.out.size))
        clear hb1
        by_cases hs : signB g = true
        · have HSG := Lib.hid (sign_is g true hs w1)
          have HBY : Hid (∀ W, Calls Tryd.prog 61 #[.int .i64 g] W fun e w' => e = .returned (.slice (some ⟨W.heap.size, 0, none⟩) (Lib.encodeRune g).length (Lib.encodeRune g).length) ∧ W.alloc (.cells (Lib.runeCells g).toArray 5) = w') := fun W => (bytes_any g W hs).mono fun e w' h => ⟨h.1, h.2.symm⟩
          have HBG := Lib.hid (fun b (hb : decide (s.data.toList.take (Lib.encodeRune g).length = Lib.encodeRune g) = b) W => begins_is s g b W hs HM.out hb)
          have hk4 := encodeRune_le g
          have HS := Lib.hid hs
          clear hs
          by_cases hl : (Lib.encodeRune g).length = m
          · have HL := Lib.hid hl
            rw [hl] at HBY
            have hml : ((m : Int) == (m : Int)) = true := beq_self_eq_true _
            clear hl hk4
            go_wp2_with fail
            refine HSG.out.mono ?_
            rintro e w2 ⟨rfl, rfl⟩
            go_wp2_with fail
            refine (HBY.out _).mono ?_
            rintro e w2 ⟨rfl, rfl⟩
            by_cases ht : s.data.toList.take m = Lib.encodeRune g
            · have HBT := Lib.hid (HBG.out true (by rw [HL.out]; exact decide_eq_true ht))
              have HT := Lib.hid ht
              clear ht
              go_wp2_with fail
              refine (HBT.out _).mono ?_
              rintro e w3 ⟨rfl, hb3⟩
              have HB3 := Lib.hid ((HB1.out.alloc HB1.out.size (.cells (Lib.runeCells g).toArray 5)).trans (hb3.mono (by have := HB1.out.size; simp; omega)))
              clear hb3
              go_wp2_with fail
              go_ret2
              have hc : condB s.data.toList m = true := by rw [HC.out, HS.out, decide_eq_true HL.out, decide_eq_true HT.out]; rfl
              exact ⟨by rw [HST.out hc]; rfl, HB3.out⟩
            · have HBT := Lib.hid (HBG.out false (by rw [HL.out]; exact decide_eq_false ht))
              have HT := Lib.hid ht
              clear ht
              go_wp2_with fail
              refine (HBT.out _).mono ?_
              rintro e w3 ⟨rfl, hb3⟩
              have HB3 := Lib.hid ((HB1.out.alloc HB1.out.size (.cells (Lib.runeCells g).toArray 5)).trans (hb3.mono (by have := HB1.out.size; simp; omega)))
              clear hb3
              go_wp2_with fail
              go_roundw
              case rel => exact ⟨m + 1, k, by omega, by have := HMK.out; omega, by go_num, HNX.out (by rw [HC.out, HS.out, decide_eq_false HT.out, Bool.and_false]), HB3.out⟩
              case measure => simp [intOf]; omega
          · have HL := Lib.hid hl
            have hml : (((Lib.encodeRune g).length : Int) == (m : Int)) = false := beq_eq_false_iff_ne.2 (by omega)
            have hml2 : ((Lib.encodeRune g).length == m) = false := beq_eq_false_iff_ne.2 (by omega)
            have HKL : Hid (condB s.data.toList m = false) := by show _ = _; rw [HC.out, decide_eq_false hl, Bool.and_false, Bool.false_and]
            generalize (Lib.encodeRune g).length = ln at HBY hml hml2 hk4
            clear hl HBG
            go_wp2_with fail
            refine HSG.out.mono ?_
            rintro e w2 ⟨rfl, rfl⟩
            go_wp2_with fail
            refine (HBY.out _).mono ?_
            rintro e w2 ⟨rfl, rfl⟩
            go_wp2_with fail
            go_roundw
            case rel => exact ⟨m + 1, k, by omega, by have := HMK.out; omega, by go_num, HNX.out HKL.out, HB1.out.alloc HB1.out.size _⟩
            case measure => simp [intOf]; omega
        · have hsf : signB g = false := by simpa using hs
          have HSG := Lib.hid (sign_is g false hsf w1)
          have HKL : Hid (condB s.data.toList m = false) := by show _ = _; rw [HC.out, hsf]; rfl
          clear hs hsf
          go_wp2_with fail
          refine HSG.out.mono ?_
          rintro e w2 ⟨rfl, rfl⟩
          go_wp2_with fail
          go_roundw
          case rel => exact ⟨m + 1, k, by omega, by have := HMK.out; omega, by go_num, HNX.out HKL.out, HB1.out⟩
          case measure => simp [intOf]; omega
theorem decodeGo_L (s : ByteArray) (h : s.data.toList ≠ []) : Lib.decodeGo s = Lib.decodeL s.data.toList := by
  have hs : s.size ≠ 0 := by
    intro e
    exact h (List.eq_nil_of_length_eq_zero (show s.data.toList.length = 0 from e))
  unfold Lib.decodeGo
  rw [if_neg hs, ← List.drop_zero (l := s.data.toList), Lib.decodeL_drop]
theorem decodeL_small (l : List UInt8) (h : (Lib.decodeL l).1 = 65533) : (Lib.decodeL l).2 = 1 ∨ (Lib.decodeL l).2 = 3 := by
  rw [Lib.decodeL_N] at h ⊢
  rcases Lib.decodeN_shape l.length (l.getD 0 0).toNat (l.getD 1 0).toNat (l.getD 2 0).toNat (l.getD 3 0).toNat with ⟨c, e⟩ | ⟨c1, c2, c3, cv, e⟩ | ⟨c1, c2, c3, c4, cv, cs, e⟩ | ⟨c1, c2, c3, c4, c5, cv, cw, e⟩ | e
  all_goals (rw [e] at h ⊢; simp only at h ⊢)
  all_goals first | (left; rfl) | (right; rfl) | (exfalso; omega) | simp
set_option maxHeartbeats 400000 in
theorem first_walk (s : ByteArray) (r n : Nat) (hd : Lib.decodeGo s = (r, n)) (hr : (r : Int) ≤ 1114111) (hn : (n : Int) ≤ 4) (p : Int × Nat) (w : World) (hT : Lib.Utf8Tabs 2 3 w)
    (hp : (r = 65533 ∧ n < 3 ∧ p = (-1, n)) ∨ ((r ≠ 65533 ∨ n = 3) ∧ p = ((r : Int), n))) :
    Calls Tryd.prog 57 #[.string s] w fun e w' => e = .returned (.tuple #[.int .i64 p.1, .int .i64 (p.2 : Nat)]) ∧ Below w.heap.size w w' := by
  have D := Tryd.utf8_DecodeRuneInString s w hT
  rw [hd] at D
  have DD := Lib.hid D
  clear D hd hT
  rcases hp with ⟨rfl, h3, rfl⟩ | ⟨h, rfl⟩
  · have h3' : (n : Int) < 3 := by omega
    clear h3
    go_enter Tryd.func57, Tryd.ntmps57
    go_wp2_with fail
    refine DD.out.mono ?_
    rintro e w1 ⟨rfl, hb⟩
    have HB := Lib.hid hb
    clear hb
    go_wp2_with fail
    go_ret2
    exact ⟨rfl, HB.out⟩
  · by_cases hx : r = 65533
    · subst hx
      have hn3 : n = 3 := by rcases h with h | h; exact absurd rfl h; exact h
      subst hn3
      clear h
      go_enter Tryd.func57, Tryd.ntmps57
      go_wp2_with fail
      refine DD.out.mono ?_
      rintro e w1 ⟨rfl, hb⟩
      have HB := Lib.hid hb
      clear hb
      go_wp2_with fail
      go_ret2
      exact ⟨rfl, HB.out⟩
    · have hx' : ((r : Int) == 65533) = false := beq_eq_false_iff_ne.2 (by omega)
      clear h hx
      go_enter Tryd.func57, Tryd.ntmps57
      go_wp2_with fail
      refine DD.out.mono ?_
      rintro e w1 ⟨rfl, hb⟩
      have HB := Lib.hid hb
      clear hb
      go_wp2_with fail
      go_ret2
      exact ⟨rfl, HB.out⟩
theorem first_any (s : ByteArray) (w : World) (hT : Lib.Utf8Tabs 2 3 w) : Calls Tryd.prog 57 #[.string s] w (FirstPost s.data.toList w) := by
  by_cases h0 : s.data.toList = []
  · have hs : s.size = 0 := congrArg List.length h0
    have hd : Lib.decodeGo s = (65533, 0) := by unfold Lib.decodeGo; rw [if_pos hs]
    have := first_walk s 65533 0 hd (by decide) (by decide) (-1, 0) w hT (Or.inl ⟨rfl, by decide, rfl⟩)
    unfold FirstPost
    rw [h0]
    exact this
  · have hg := decodeGo_L s h0
    have hr := Lib.decodeL_rune s.data.toList
    have hsm := decodeL_small s.data.toList
    have hw4 : (Lib.decodeL s.data.toList).2 ≤ 4 := by
      rw [Lib.decodeL_N]
      rcases Lib.decodeN_shape s.data.toList.length (s.data.toList.getD 0 0).toNat (s.data.toList.getD 1 0).toNat (s.data.toList.getD 2 0).toNat (s.data.toList.getD 3 0).toNat with ⟨c, e⟩ | ⟨c1, c2, c3, cv, e⟩ | ⟨c1, c2, c3, c4, cv, cs, e⟩ | ⟨c1, c2, c3, c4, c5, cv, cw, e⟩ | e
      all_goals (rw [e]; simp only; omega)
    unfold FirstPost
    refine first_walk s _ _ (show Lib.decodeGo s = ((Lib.decodeL s.data.toList).1, (Lib.decodeL s.data.toList).2) from hg) (by omega) (by omega) _ w hT ?_
    unfold firstL
    rw [if_neg h0]
    by_cases hv : Lib.decodeL s.data.toList = (65533, 1)
    · rw [if_pos hv, hv]; exact Or.inl ⟨rfl, by decide, rfl⟩
    · rw [if_neg hv]
      refine Or.inr ⟨?_, rfl⟩
      by_cases hx : (Lib.decodeL s.data.toList).1 = 65533
      · rcases hsm hx with h1 | h1
        · exact absurd (Prod.ext hx h1) hv
        · exact Or.inr h1
      · exact Or.inl hx
end Go.Proofs.YtpgncjfmaeiaaaaDoor
