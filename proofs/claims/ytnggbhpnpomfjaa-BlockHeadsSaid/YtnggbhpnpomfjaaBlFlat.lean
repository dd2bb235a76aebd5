/- The law 'BlockFlat': lines that are not empty, and begin with no blank, are folded to one, with blanks between. Conditions: a line is no longer than the model's bound. -/
import Derived.Test.YtnggbhpnpomfjaaBlMuch
set_option linter.unusedVariables false
namespace Go.Proofs.Ytnggbhpnpomfjaa
open Go.RowKit
def wantL (L : List (List UInt8)) : Nat → List UInt8
  | 0 => []
  | k + 1 => wantL L k ++ (if k = 0 then [] else [32]) ++ L.getD k []
theorem flat_ne {l : List UInt8} (h : flatL l = true) : l ≠ [] := by intro e; rw [e] at h; cases h
theorem want_fold {L : List (List UInt8)} (h : ∀ k, k < L.length → flatL (L.getD k []) = true) : ∀ k, k ≤ L.length → wantL L k = foldTo L k
  | 0, _ => rfl
  | k + 1, hk => by
    have ih := want_fold h k (by omega)
    simp only [wantL, foldTo]
    rw [ih]
    by_cases k0 : k = 0
    · rw [if_pos k0, if_pos k0]
    · rw [if_neg k0, if_neg k0]
      congr 2
      have hn : nextN L (k - 1 + 1) = k := by
        rw [show k - 1 + 1 = k by omega]
        exact nextN_stop (by omega) (flat_ne (h k (by omega)))
      unfold sepL
      rw [hn, h (k - 1) (by omega), h k (by omega), decide_eq_true (show k < L.length by omega)]
      simp
      omega
theorem wantL_le (L : List (List UInt8)) : ∀ k, k ≤ L.length → (wantL L k).length ≤ bulkL (L.take k) + k
  | 0, _ => by simp [wantL, bulkL]
  | k + 1, h => by
    have ih := wantL_le L k (by omega)
    have hb := bulk_take L k (by omega)
    simp only [wantL, List.length_append]
    by_cases k0 : k = 0
    · rw [if_pos k0, List.length_nil]; omega
    · rw [if_neg k0]; simp only [List.length_cons, List.length_nil]; omega
set_option maxHeartbeats 1600000 in
theorem law_BlockFlat (w : World) (A : Option Addr) (c : Nat) (ss : List ByteArray) (g : StrsIn w A c ss) (hz : ∀ s ∈ ss, s.size ≤ 140737488355328) :
    Calls Try.prog 6 #[.slice A ss.length c] w (LawPost w) := by
  have MC := Lib.hid (much_any A c ss w g hz)
  have G := Lib.hid g
  have AL := Lib.hid (fun W => alive_any W)
  clear g hz
  cases hm : muchB ss with
  | true =>
    rw [hm] at MC
    clear hm
    go_enter Try.func6, Try.ntmps6
    go_wp2_with fail
    refine MC.out.mono ?_
    rintro e w1 ⟨rfl, rfl⟩
    go_wp2_with fail
    refine (AL.out _).mono ?_
    rintro e w4 ⟨rfl, hb4⟩
    have HB4 := Lib.hid hb4
    clear hb4
    go_wp2_with fail
    go_ret
    exact ⟨rfl, HB4.out⟩
  | false =>
    rw [hm] at MC
    obtain ⟨h1, h2⟩ := much_false hm
    have F1 := Lib.hid (fold_any A c ss w G.out (by omega) (by omega))
    have HSZ : Hid (∀ (k : Nat) (o : ByteArray), k < ss.length → o.data.toList = wantL (lns ss) k → o.size ≤ 21000 ∧ (ss.getD k ByteArray.empty).size ≤ 20000) := by
      intro k o hk ho
      have h3 := wantL_le (lns ss) k (by rw [lns_length]; omega)
      have h4 := bulk_take_le (lns ss) k
      have h6 := line_le (lns ss) k (by rw [lns_length]; omega)
      have e1 : o.size = (wantL (lns ss) k).length := by rw [← ho]; rfl
      have e2 : (ss.getD k ByteArray.empty).size = ((lns ss).getD k []).length := by rw [lns_at ss k hk]; rfl
      omega
    clear hm
    go_enter Try.func6, Try.ntmps6
    go_wp2_with fail
    refine MC.out.mono ?_
    rintro e w1 ⟨rfl, rfl⟩
    go_wp2_with fail
    go_loop [3, 11] (fun u v => ∃ (k : Nat) (o : ByteArray), k ≤ ss.length ∧ u = .string o ∧ v = .int .i64 (k : Nat) ∧ Hid (o.data.toList = wantL (lns ss) k) ∧ Hid (∀ j, j < k → flatL ((lns ss).getD j []) = true)) (fun _ v => ss.length - (intOf v).toNat)
    case atStart => exact ⟨0, ⟨#[]⟩, Nat.zero_le _, rfl, rfl, rfl, (fun j h => by omega)⟩
    case round =>
      obtain ⟨k, o, hk, rfl, rfl, ho, hfl⟩ := hrel
      by_cases hlt : k < ss.length
      · have hlt' : (k : Int) < (ss.length : Int) := by omega
        obtain ⟨b, off, hA, hbl, hc⟩ := G.out.at_ k hlt
        have HAT := Lib.hid (lns_at ss k hlt)
        obtain ⟨z1, z2⟩ := HSZ.out k o hlt ho.out
        generalize ss.getD k ByteArray.empty = s at hc HAT z2
        subst hA
        by_cases hem : s.data.toList = []
        · obtain ⟨e1, e2, e3, e4, e5⟩ := empty_facts hem
          clear hem ho hfl HAT
          go_wp2_with fail
          refine (AL.out _).mono ?_
          rintro e w4 ⟨rfl, hb4⟩
          have HB4 := Lib.hid hb4
          clear hb4
          go_wp2_with fail
          go_ret
          exact ⟨rfl, HB4.out⟩
        · obtain ⟨e1, e2, e3, e4, e5⟩ := nonempty_facts hem
          have HF := Lib.hid (flat_byte e5)
          have hix := index_zero s e5
          obtain ⟨q, hq⟩ : ∃ q, (((s[0]'e5).toNat : Int) != 32) = q := ⟨_, rfl⟩
          rw [hq] at HF
          have hq2 : (((s[0]'e5).toNat : Int) == 32) = !q := by rw [← hq]; simp [bne]
          generalize (s[0]'e5).toNat = cc at hix hq2
          clear hem hq
          cases q with
          | false =>
            clear ho hfl HAT HF
            simp only [Bool.not_false] at hq2
            go_wp2_with fail
            refine (AL.out _).mono ?_
            rintro e w4 ⟨rfl, hb4⟩
            have HB4 := Lib.hid hb4
            clear hb4
            go_wp2_with fail
            go_ret
            exact ⟨rfl, HB4.out⟩
          | true =>
            simp only [Bool.not_true] at hq2
            have HN : Hid (∀ j, j < k + 1 → flatL ((lns ss).getD j []) = true) := fun j hj => by
              rcases Nat.lt_or_ge j k with h | h
              · exact hfl.out j h
              · have : j = k := by omega
                subst this; rw [HAT.out]; exact HF.out
            have hadd0 : o.size + s.size ≤ 9223372036854775807 := by omega
            have hadd1 : o.size + (⟨#[32]⟩ : ByteArray).size ≤ 9223372036854775807 := by show o.size + 1 ≤ _; omega
            have hadd2 : (o ++ ⟨#[32]⟩).size + s.size ≤ 9223372036854775807 := by rw [← bl_size, cat_data, List.length_append, bl_size]; show o.size + 1 + s.size ≤ _; omega
            by_cases h0 : k = 0
            · have hgt : decide (0 < k) = false := decide_eq_false (by omega)
              have HO : Hid ((o ++ s).data.toList = wantL (lns ss) (k + 1)) := by
                show _ = _
                rw [cat_data, ho.out, ← HAT.out]
                simp only [wantL]
                rw [if_pos h0, List.append_nil]
              clear h0 ho hfl HAT HF
              go_wp2_with fail
              go_round
              case rel => exact ⟨k + 1, _, by omega, rfl, by go_num, HO.out, HN.out⟩
              case measure => simp [intOf]; omega
            · have hgt : decide (0 < k) = true := decide_eq_true (by omega)
              have HO : Hid (((o ++ ⟨#[32]⟩) ++ s).data.toList = wantL (lns ss) (k + 1)) := by
                show _ = _
                rw [cat_data, cat_data, ho.out, ← HAT.out]
                simp only [wantL]
                rw [if_neg h0]
              clear h0 ho hfl HAT HF
              go_wp2_with fail
              go_round
              case rel => exact ⟨k + 1, _, by omega, rfl, by go_num, HO.out, HN.out⟩
              case measure => simp [intOf]; omega
      · obtain rfl : ss.length = k := by omega
        have hq : o = ⟨(foldL (lns ss)).toArray⟩ := by
          have h3 := want_fold (L := lns ss) (fun j hj => hfl.out j (by rwa [lns_length] at hj)) ss.length (by rw [lns_length]; omega)
          rw [← bl_str o, ho.out, h3]
          unfold foldL
          rw [lns_length]
        rw [← hq] at F1
        have hs := strEq o
        clear hq ho hfl
        go_wp2_with fail
        refine F1.out.mono ?_
        rintro e w2 ⟨rfl, hb2⟩
        have HB2 := Lib.hid hb2
        clear hb2
        go_wp2_with fail
        refine (AL.out _).mono ?_
        rintro e w4 ⟨rfl, hb4⟩
        have HB4 := Lib.hid (HB2.out.trans (hb4.mono HB2.out.size))
        clear hb4
        go_wp2_with fail
        go_ret
        exact ⟨rfl, HB4.out⟩
end Go.Proofs.Ytnggbhpnpomfjaa
