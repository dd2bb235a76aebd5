/- Walk: the document's Fold. Conditions: the lines are no more than 10^6, their bytes no more than 10^9. -/
import Derived.Test.YtnggbhpnpomfjaaBlStr
set_option linter.unusedVariables false
namespace Go.Proofs.Ytnggbhpnpomfjaa
open Go.RowKit
theorem rflat_is (s : ByteArray) (b : Bool) (hb : flatL s.data.toList = b) (w : World) : Calls Try.prog 25 #[.string s] w fun e w' => e = .returned (.bool b) ∧ w = w' := by subst hb; exact rflat_any s w
theorem cat_data (a b : ByteArray) : (a ++ b).data.toList = a.data.toList ++ b.data.toList := by simp
theorem str_ret {a b : ByteArray} (h : a.data.toList = b.data.toList) : Ending.returned (.string a) = Ending.returned (.string b) := by
  have : a = b := by
    cases a; cases b
    congr 1
    exact Array.toList_inj.1 h
  rw [this]
/-- what stands ahead of a line -/
def ahead (L : List (List UInt8)) (k : Nat) : List UInt8 := foldTo L k ++ (if k = 0 then [] else sepL L (k - 1))
theorem ahead_line (L : List (List UInt8)) (k : Nat) : ahead L k ++ L.getD k [] = foldTo L (k + 1) := rfl
theorem ahead_next (L : List (List UInt8)) (k : Nat) : foldTo L (k + 1) ++ sepL L k = ahead L (k + 1) := by
  unfold ahead; rw [if_neg (by omega)]; rfl
set_option maxRecDepth 100000 in
set_option maxHeartbeats 3200000 in
theorem rfold_any (A : Option Addr) (c : Nat) (ss : List ByteArray) (w : World) (g : StrsIn w A c ss) (hl : ss.length ≤ 1000000) (hbk : bulkL (lns ss) ≤ 1000000000) :
    Calls Try.prog 11 #[.slice A ss.length c] w fun e w' => e = .returned (.string ⟨(foldL (lns ss)).toArray⟩) ∧ w = w' := by
  have G := Lib.hid g
  have HLN := Lib.hid (lns_length ss)
  have HSZ : Hid (∀ (k : Nat) (o : ByteArray), k < ss.length → o.data.toList = ahead (lns ss) k → o.size ≤ 1002000000 ∧ (ss.getD k ByteArray.empty).size ≤ 1000000000 ∧ (o ++ ss.getD k ByteArray.empty).size ≤ 1002000000) := by
    intro k o hk ho
    have h1 := foldTo_le (lns ss) k (by rw [lns_length]; omega)
    have h2 := bulk_take_le (lns ss) k
    have h3 := sepL_le (lns ss) (k - 1)
    have h4 := foldTo_le (lns ss) (k + 1) (by rw [lns_length]; omega)
    have h5 := bulk_take_le (lns ss) (k + 1)
    have h6 := line_le (lns ss) k (by rw [lns_length]; omega)
    have e1 : o.size = (ahead (lns ss) k).length := by rw [← ho]; rfl
    have e2 : (ss.getD k ByteArray.empty).size = ((lns ss).getD k []).length := by rw [lns_at ss k hk]; rfl
    have e3 : (o ++ ss.getD k ByteArray.empty).size = (foldTo (lns ss) (k + 1)).length := by
      rw [← ahead_line, ← ho, lns_at ss k hk, ← cat_data]; rfl
    have e4 : (ahead (lns ss) k).length ≤ (foldTo (lns ss) k).length + 1 := by
      unfold ahead; rw [List.length_append]; split
      · simp
      · omega
    omega
  clear g
  go_enter Try.func11, Try.ntmps11
  go_wp2_with fail
  go_loop [3, 4] (fun u v => ∃ (k : Nat) (o : ByteArray), u = .string o ∧ v = .int .i64 (k : Nat) ∧ (k < ss.length ∨ ss.length = 0 ∧ k = 0) ∧ Hid (o.data.toList = ahead (lns ss) k)) (fun _ v => ss.length - (intOf v).toNat)
  case atStart => exact ⟨0, ⟨#[]⟩, rfl, rfl, by omega, rfl⟩
  case round =>
    obtain ⟨k, o, rfl, rfl, hk, ho⟩ := hrel
    by_cases hlt : k < ss.length
    · have hlt' : (k : Int) < (ss.length : Int) := by omega
      obtain ⟨b, off, hA, hbl, hc⟩ := G.out.at_ k hlt
      have HAT := Lib.hid (lns_at ss k hlt)
      have HO1 : Hid ((o ++ ss.getD k ByteArray.empty).data.toList = foldTo (lns ss) (k + 1)) := by
        show _ = _
        rw [cat_data, ho.out, ← HAT.out, ahead_line]
      obtain ⟨hz1, hz2, hz3⟩ := HSZ.out k o hlt ho.out
      obtain ⟨sk, hsk⟩ : ∃ s, ss.getD k ByteArray.empty = s := ⟨_, rfl⟩
      rw [hsk] at hc HO1 HAT hz2 hz3
      have hadd : o.size + sk.size ≤ 9223372036854775807 := by omega
      have ha1 : (o ++ sk).size + (⟨#[10]⟩ : ByteArray).size ≤ 9223372036854775807 := by have : (⟨#[10]⟩ : ByteArray).size = 1 := rfl; omega
      have ha2 : (o ++ sk).size + (⟨#[32]⟩ : ByteArray).size ≤ 9223372036854775807 := by have : (⟨#[32]⟩ : ByteArray).size = 1 := rfl; omega
      clear hk ho hsk
      by_cases hlast : k = ss.length - 1
      · have hq : ((k : Int) == (ss.length : Int) - 1) = true := beq_iff_eq.2 (by omega)
        have HF : Hid (foldTo (lns ss) (k + 1) = foldL (lns ss)) := by show _ = foldTo _ _; rw [HLN.out, show k + 1 = ss.length by omega]
        clear hlast
        subst hA
        go_wp2_with fail
        go_ret
        exact ⟨str_ret (by rw [HO1.out, HF.out]), rfl⟩
      · have hq : ((k : Int) == (ss.length : Int) - 1) = false := beq_eq_false_iff_ne.2 (by omega)
        have hk1 : k + 1 < ss.length := by omega
        clear hlast
        subst hA
        go_wp2_with fail
        go_loop [5] (fun v => ∃ j : Nat, k + 1 ≤ j ∧ j ≤ ss.length ∧ v = .int .i64 (j : Nat) ∧ Hid (nextN (lns ss) j = nextN (lns ss) (k + 1))) (fun v => ss.length - (intOf v).toNat)
        case atStart => exact ⟨k + 1, Nat.le_refl _, by omega, by go_num, rfl⟩
        case round =>
          obtain ⟨j, hj1, hj2, rfl, hn⟩ := hrel
          by_cases hgo : j < ss.length ∧ (ss.getD j ByteArray.empty).data.toList = []
          · have hjl := hgo.1
            have hjl' : (j : Int) < (ss.length : Int) := by omega
            obtain ⟨b', off', hA', hbl', hc'⟩ := G.out.at_ j hjl
            cases hA'
            obtain ⟨e1, e2, e3, e4, e5⟩ := empty_facts hgo.2
            have HN : Hid (nextN (lns ss) (j + 1) = nextN (lns ss) (k + 1)) := by
              show _ = _
              exact (nextN_empty (by rw [HLN.out]; exact hjl) (by rw [lns_at ss j hjl]; exact hgo.2)).symm.trans hn.out
            generalize ss.getD j ByteArray.empty = sj at hc' e1 e2 e3 e4 e5
            clear hgo hn
            go_wp2_with fail
            go_round
            case rel => exact ⟨j + 1, by omega, by omega, by go_num, HN.out⟩
            case measure => simp [intOf]; omega
          · have HJ : Hid (j = nextN (lns ss) (k + 1)) := by
              show _ = _
              rw [← hn.out]
              by_cases hjl : j < ss.length
              · exact (nextN_stop (by rw [HLN.out]; exact hjl) (by rw [lns_at ss j hjl]; exact fun h => hgo ⟨hjl, h⟩)).symm
              · have : j = ss.length := by omega
                subst this
                have := nextN_end (lns ss)
                rw [HLN.out] at this
                exact this.symm
            clear hn
            have hsep : Hid (sepL (lns ss) k = if (flatL sk.data.toList && decide (j < ss.length) && flatL ((lns ss).getD j [])) = true then (if j = k + 1 then [32] else []) else [10]) := by
              show _ = _
              unfold sepL
              rw [HAT.out, ← HJ.out, HLN.out]
            obtain ⟨fk, hfk⟩ : ∃ q, flatL sk.data.toList = q := ⟨_, rfl⟩
            have FK := Lib.hid (rflat_is sk fk hfk w)
            rw [hfk] at hsep
            have hstep : ∀ t : ByteArray, t.data.toList = sepL (lns ss) k → ((o ++ sk) ++ t).data.toList = ahead (lns ss) (k + 1) := fun t ht => by
              rw [cat_data, HO1.out, ht, ahead_next]
            have HST := Lib.hid hstep
            clear hfk hstep
            by_cases hjl : j < ss.length
            · have hjl' : (j : Int) < (ss.length : Int) := by omega
              have hjne : (ss.getD j ByteArray.empty).data.toList ≠ [] := fun h => hgo ⟨hjl, h⟩
              obtain ⟨e1, e2, e3, e4, e5⟩ := nonempty_facts hjne
              obtain ⟨b', off', hA', hbl', hc'⟩ := G.out.at_ j hjl
              cases hA'
              rw [lns_at ss j hjl] at hsep
              generalize ss.getD j ByteArray.empty = sj at hc' e1 e2 e3 e4 e5 hsep
              obtain ⟨fj, hfj⟩ : ∃ q, flatL sj.data.toList = q := ⟨_, rfl⟩
              have FJ := Lib.hid (rflat_is sj fj hfj w)
              rw [hfj, decide_eq_true hjl] at hsep
              clear hgo hjne hfj
              cases fk with
              | false =>
                have HS : Hid (sepL (lns ss) k = [10]) := by show _ = _; rw [hsep.out]; rfl
                clear hsep
                go_wp2_with (go_at_call 25; with_reducible refine FK.out.mono ?_; rintro e w1 ⟨rfl, rfl⟩)
                go_round
                case rel => exact ⟨k + 1, _, rfl, by go_num, by omega, HST.out _ HS.out.symm⟩
                case measure => simp [intOf]; omega
              | true =>
                cases fj with
                | false =>
                  have HS : Hid (sepL (lns ss) k = [10]) := by show _ = _; rw [hsep.out]; rfl
                  clear hsep
                  go_wp2_with fail
                  refine FK.out.mono ?_
                  rintro e w1 ⟨rfl, rfl⟩
                  go_wp2_with fail
                  refine FJ.out.mono ?_
                  rintro e w1 ⟨rfl, rfl⟩
                  go_wp2_with fail
                  refine FK.out.mono ?_
                  rintro e w1 ⟨rfl, rfl⟩
                  go_wp2_with fail
                  refine FJ.out.mono ?_
                  rintro e w1 ⟨rfl, rfl⟩
                  go_wp2_with fail
                  go_round
                  case rel => exact ⟨k + 1, _, rfl, by go_num, by omega, HST.out _ HS.out.symm⟩
                  case measure => simp [intOf]; omega
                | true =>
                  by_cases hjk : j = k + 1
                  · have HS : Hid (sepL (lns ss) k = [32]) := by show _ = _; rw [hsep.out]; simp [hjk]
                    have hq2 : ((j : Int) == (k : Int) + 1) = true := beq_iff_eq.2 (by omega)
                    clear hsep hjk
                    go_wp2_with fail
                    refine FK.out.mono ?_
                    rintro e w1 ⟨rfl, rfl⟩
                    go_wp2_with fail
                    refine FJ.out.mono ?_
                    rintro e w1 ⟨rfl, rfl⟩
                    go_wp2_with fail
                    go_round
                    case rel => exact ⟨k + 1, _, rfl, by go_num, by omega, HST.out _ HS.out.symm⟩
                    case measure => simp [intOf]; omega
                  · have HS : Hid (sepL (lns ss) k = []) := by show _ = _; rw [hsep.out]; simp [hjk]
                    have hq2 : ((j : Int) == (k : Int) + 1) = false := beq_eq_false_iff_ne.2 (by omega)
                    have HE : Hid ((o ++ sk).data.toList = ahead (lns ss) (k + 1)) := by show _ = _; rw [HO1.out, ← ahead_next, HS.out, List.append_nil]
                    clear hsep hjk
                    go_wp2_with fail
                    refine FK.out.mono ?_
                    rintro e w1 ⟨rfl, rfl⟩
                    go_wp2_with fail
                    refine FJ.out.mono ?_
                    rintro e w1 ⟨rfl, rfl⟩
                    go_wp2_with fail
                    refine FK.out.mono ?_
                    rintro e w1 ⟨rfl, rfl⟩
                    go_wp2_with fail
                    refine FJ.out.mono ?_
                    rintro e w1 ⟨rfl, rfl⟩
                    go_wp2_with fail
                    go_round
                    case rel => exact ⟨k + 1, _, rfl, by go_num, by omega, HE.out⟩
                    case measure => simp [intOf]; omega
            · have hjl' : decide ((j : Int) < (ss.length : Int)) = false := by simp; omega
              have hjl2 : decide (j < ss.length) = false := by simpa using hjl
              have HS : Hid (sepL (lns ss) k = [10]) := by show _ = _; rw [hsep.out, hjl2, Bool.and_false, Bool.false_and]; rfl
              clear hsep hgo
              cases fk
              all_goals
                go_wp2_with fail
                refine FK.out.mono ?_
                rintro e w1 ⟨rfl, rfl⟩
                go_wp2_with fail
                refine FK.out.mono ?_
                rintro e w1 ⟨rfl, rfl⟩
                go_wp2_with fail
                go_round
                case rel => exact ⟨k + 1, _, rfl, by go_num, by omega, HST.out _ HS.out.symm⟩
                case measure => simp [intOf]; omega
    · have hz : ss.length = 0 ∧ k = 0 := by omega
      obtain ⟨hz1, rfl⟩ := hz
      have hL : ss = [] := List.eq_nil_of_length_eq_zero hz1
      have HF : Hid (o.data.toList = foldL (lns ss)) := by show _ = _; rw [ho.out, hL]; rfl
      clear hk ho hL
      have hlt' : decide (((0 : Nat) : Int) < (ss.length : Int)) = false := decide_eq_false (by omega)
      go_wp2_with fail
      go_ret
      exact ⟨str_ret (by rw [HF.out]), rfl⟩
end Go.Proofs.Ytnggbhpnpomfjaa
