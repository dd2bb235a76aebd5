/- Walks: signs' bytes as the document has them; and that the law's own witness stands. Conditions: as for the program's. -/
import Derived.Test.YtnggbhpnpomfjaaDoorUtEnc
set_option linter.unusedVariables false
namespace Go.Proofs.YtnggbhpnpomfjaaDoor
open Go.RowKit
theorem own_below {w w' : World} {base : Nat} {e : TypeId} {size n : Nat} {v : Value} {xs : List Value} (h : w.ownsRow base e size v n xs) (hb : Below w.heap.size w w') : w'.ownsRow base e size v n xs := by
  refine ⟨h.1, ?_⟩
  rcases h.2 with h2 | ⟨b, cap, cur, hv, hg, hh, r⟩
  · exact Or.inl h2
  · have hlt : b < w.heap.size := by
      rcases Nat.lt_or_ge b w.heap.size with h' | h'
      · exact h'
      · rw [Array.getElem?_eq_none h'] at hh; cases hh
    exact Or.inr ⟨b, cap, cur, hv, hg, (hb.block b hlt).trans hh, r⟩
/-- bytes of the call's own, as a string -/
theorem conv_own {w : World} {base : Nat} {v : Value} (l : List UInt8) (h : w.ownsRow base 5 1 v l.length (Lib.byteCells l)) :
    (convert 74 9 v).run Tryd.prog w = .ok (.string ⟨l.toArray⟩) w := by
  rcases h.2 with ⟨rfl, h0⟩ | ⟨g, cap, cur, rfl, _, hh, _, _, hc, ht⟩
  · have hl : l = [] := List.eq_nil_of_length_eq_zero h0
    subst hl
    exact run_convert_bytes_nil w 74 5 Tryd.underlying74 Tryd.underlying5 0 0 9 Tryd.underlying9
  · refine conv_cells w g 0 cap l (fun i hi => ?_)
    rw [Nat.zero_add, cell_of_row w g i cur _ _ hh]
    have e : cur.toList[i]? = (Lib.byteCells l)[i]? := by rw [← ht, List.getElem?_take, if_pos (by omega)]
    rw [← Array.getElem?_toList, e]
    simp [Lib.byteCells, List.getD_eq_getElem?_getD, hi]
theorem own_len {w : World} {base : Nat} {e : TypeId} {size n : Nat} {v : Value} {xs : List Value} (h : w.ownsRow base e size v n xs) : ∃ A c, v = .slice A n c := by
  rcases h.2 with ⟨rfl, h0⟩ | ⟨g, cap, cur, rfl, _⟩
  · exact ⟨none, 0, by rw [h0]⟩
  · exact ⟨_, cap, rfl⟩
theorem addr_add (b i : Nat) : (⟨b, 0, none⟩ : Addr).add i = ⟨b, 0 + i, none⟩ := by unfold Addr.add; split <;> simp_all
set_option maxHeartbeats 1600000 in
theorem rencode_any (A : Option Addr) (c : Nat) (zs : List Int) (w : World) (g : IntsIn w A c zs) :
    Calls Tryd.prog 20 #[.slice A zs.length c] w fun e w' => e = .returned (encV zs) ∧ Below w.heap.size w w' := by
  obtain ⟨i0, hi, hz0, hz1, hz2⟩ := info_parts infoByte
  have G := Lib.hid g
  have hlen := g.len
  have HE0 : Hid (encOk [] = true ∧ encL [] = []) := ⟨rfl, rfl⟩
  clear g
  go_enter Tryd.func20, Tryd.ntmps20
  go_wp2_with fail
  go_loopw [4, 5] (fun u v wr => ∃ (k : Nat) (row : Value), k ≤ zs.length ∧ v = .int .i64 (k : Nat) ∧ row = u ∧ Hid (encOk (zs.take k) = true) ∧ Hid (wr.ownsRow w.heap.size 5 1 row (encL (zs.take k)).length (Lib.byteCells (encL (zs.take k)))) ∧ Hid (Below w.heap.size w wr)) (fun _ v _ => zs.length - (intOf v).toNat)
  case atStart => exact ⟨0, _, Nat.zero_le _, rfl, rfl, HE0.out.1, World.ownsRow_nil _ _ _ _, Below.refl _ _⟩
  case round =>
    obtain ⟨k, row, hk, rfl, rfl, ho, hi', hb⟩ := hrel
    by_cases hlt : k < zs.length
    · have hlt' : (k : Int) < (zs.length : Int) := by omega
      obtain ⟨b, off, hA, hbl, hc⟩ := (G.out.below hb.out).at_ k hlt
      have HOK := Lib.hid (encOk_take hlt)
      have HEL := Lib.hid (encL_take hlt)
      have HNO := Lib.hid (fun h => encOk_false (zs := zs) hlt h)
      have HEB := encL_length (zs.take k)
      rw [List.length_take] at HEB
      subst hA
      generalize zs.getD k 0 = n at hc HOK HEL HNO
      cases hs : signB n with
      | false =>
        have SG := Lib.hid (sign_is n false hs wr)
        have hs : Hid (encV zs = .tuple #[.string ⟨#[]⟩, .int .i64 8]) := by show _ = _; unfold encV; rw [HNO.out hs]; rfl
        clear HEB
        go_wp2_with fail
        refine SG.out.mono ?_
        rintro e w1 ⟨rfl, rfl⟩
        go_wp2_with fail
        go_ret2
        exact ⟨by rw [hs.out]; rfl, hb.out⟩
      | true =>
        have SG := Lib.hid (sign_is n true hs wr)
        have BY : Hid (Calls Tryd.prog 60 #[.int .i64 n] wr fun e w' => e = .returned (.slice (some ⟨wr.heap.size, 0, none⟩) (Lib.encodeRune n).length (Lib.encodeRune n).length) ∧ wr.alloc (.cells (Lib.runeCells n).toArray 5) = w') := (bytes_any n wr hs).mono fun e w' h => ⟨h.1, h.2.symm⟩
        have HS := Lib.hid hs
        have HSZ := hb.out.size
        have HCE := Lib.hid (fun i hi => rune_cell (n := n) (heap_alloc_new wr (.cells (Lib.runeCells n).toArray 5)) i hi)
        have h4 := encodeRune_le n
        have HBC := Lib.hid (Lib.byteCells_encodeRune n)
        have HAP : Hid (∀ l : List UInt8, Lib.byteCells (l ++ Lib.encodeRune n) = Lib.byteCells l ++ Lib.runeCells n ∧ (l ++ Lib.encodeRune n).length = l.length + (Lib.encodeRune n).length) := fun l => ⟨by rw [Lib.byteCells_append, HBC.out], List.length_append⟩
        clear hs
        go_wp2_with fail
        refine SG.out.mono ?_
        rintro e w1 ⟨rfl, rfl⟩
        go_wp2_with fail
        refine BY.out.mono ?_
        rintro e w1 ⟨rfl, rfl⟩
        go_wp2_with (at_builtin; refine wpList_append_own _ rfl _ _ 74 rfl w.heap.size 5 i0 (.int .u8 0) 1 1 Tryd.underlying74 hi hz0 hz1 hz2 rfl (by decide) row _ _ rfl (own_below hi'.out ((Below.refl _ _).alloc (Nat.le_refl _) _)) ⟨wr.heap.size, 0, none⟩ (Lib.encodeRune n).length (Lib.encodeRune n).length (Lib.runeCells n) rfl ?c0 ?c1 ?c2 ?c3 ?c4 ?c5 ?_)
        case c0 => rw [Lib.runeCells_length]; omega
        case c1 =>
          intro j u hj
          have hjl : j < (Lib.encodeRune n).length := by
            rw [← Lib.runeCells_length]; exact (List.getElem?_eq_some_iff.1 hj).1
          have := HCE.out j hjl
          rw [← Lib.byteCells_encodeRune] at hj
          have e : u = .int .u8 (((Lib.encodeRune n).getD j 0).toNat : Int) := by
            simp only [Lib.byteCells, List.getElem?_map, List.getElem?_eq_getElem hjl, Option.map_some, Option.some.injEq] at hj
            rw [← hj, List.getD_eq_getElem?_getD, List.getElem?_eq_getElem hjl]; rfl
          rw [e, addr_add]
          exact this
        case c2 =>
          intro u hu
          rw [← Lib.byteCells_encodeRune] at hu
          obtain ⟨x, _, rfl⟩ := List.mem_map.1 hu
          rfl
        case c3 => unfold maxLen; omega
        case c4 => omega
        case c5 => simp; omega
        intro v' w2 hown hgrow _
        have HB2 : Hid (Below w.heap.size w w2) := (hb.out.alloc HSZ _).grown hgrow (by simp; omega) (fun g hg => (hi'.out.lt g hg).1)
        have HO2 : Hid (w2.ownsRow w.heap.size 5 1 v' (encL (zs.take (k + 1))).length (Lib.byteCells (encL (zs.take (k + 1))))) := by
          show World.ownsRow _ _ _ _ _ _ _
          rw [HEL.out, (HAP.out _).1, (HAP.out _).2]; exact hown
        clear hown hgrow HEB h4
        go_wp2_with fail
        go_roundw
        case rel => exact ⟨k + 1, v', by omega, by go_num, rfl, by rw [HOK.out, ho.out, HS.out]; rfl, HO2.out, HB2.out⟩
        case measure => simp [intOf]; omega
    · obtain rfl : k = zs.length := by omega
      rw [List.take_length] at ho hi'
      have hx := conv_own (encL zs) hi'.out
      have HV : Hid (encV zs = .tuple #[.string ⟨(encL zs).toArray⟩, .int .i64 0]) := by show _ = _; unfold encV; rw [if_pos ho.out]
      generalize (⟨(encL zs).toArray⟩ : ByteArray) = str at hx HV
      clear hi' ho
      go_wp2_with fail
      go_ret2
      exact ⟨by rw [HV.out]; rfl, hb.out⟩
set_option maxHeartbeats 1600000 in
/-- the witness: a sign of three bytes -/
theorem alive_any (w : World) (hT : Tabs w) : Calls Tryd.prog 21 #[] w fun e w' => e = .returned (.bool true) ∧ Below w.heap.size w w' := by
  have HB0 := Lib.hid ((Below.refl w.heap.size w).alloc (Nat.le_refl _) (.cells #[.int .i64 8364] 3))
  have G : IntsIn (w.alloc (.cells #[.int .i64 8364] 3)) (some ⟨w.heap.size, 0, none⟩) 1 [8364] := ⟨fun i hi => by
    obtain rfl : i = 0 := by simpa using hi
    exact ⟨w.heap.size, 0, rfl, by simp, cell_of_row _ _ _ _ _ _ (heap_alloc_new w _)⟩, fun i hi => by
    obtain rfl : i = 0 := by simpa using hi
    decide, Nat.le_refl _, by decide⟩
  have E := Lib.hid (encode_any _ _ _ _ G)
  have HV : Hid (encV [8364] = .tuple #[.string ⟨#[226, 130, 172]⟩, .int .i64 0]) := by show _ = _; rfl
  have HT := Lib.hid hT
  have HF : Hid (firstL [226, 130, 172, 97] = (8364, 3)) := by show _ = _; decide +kernel
  have HP1 : Hid (printB 97 = true) := by show _ = _; decide
  have HP0 : Hid (printB 0 = false) := by show _ = _; decide
  clear hT G
  go_enter Tryd.func21, Tryd.ntmps21
  go_wp2_with fail
  refine E.out.mono ?_
  rintro e w1 ⟨rfl, hb1⟩
  rw [HV.out]
  have HB1 := Lib.hid (HB0.out.trans (hb1.mono (by simp)))
  clear hb1
  have F : Hid (Calls Tryd.prog 30 #[.string ({ data := #[226, 130, 172] } ++ { data := #[97] })] w1 fun e w' => e = .returned (.tuple #[.int .i64 8364, .int .i64 3]) ∧ Below w1.heap.size w1 w') := by
    have h := first_any ({ data := #[226, 130, 172] } ++ { data := #[97] }) w1 (HT.out.below HB1.out)
    have hd : (({ data := #[226, 130, 172] } ++ { data := #[97] } : ByteArray)).data.toList = [226, 130, 172, 97] := rfl
    rw [hd] at h
    unfold FirstPost at h
    rw [HF.out] at h
    exact h
  have hs : ((⟨#[226, 130, 172]⟩ : ByteArray).toList == (⟨#[226, 130, 172]⟩ : ByteArray).toList) = true := beq_self_eq_true _
  go_wp2_with fail
  refine F.out.mono ?_
  rintro e w2 ⟨rfl, hb2⟩
  have HB2 := Lib.hid (HB1.out.trans (hb2.mono HB1.out.size))
  clear hb2
  have P1 := Lib.hid (printable_any 97 w2)
  rw [HP1.out] at P1
  have P0 := Lib.hid (printable_any 0 w2)
  rw [HP0.out] at P0
  go_wp2_with fail
  refine P1.out.mono ?_
  rintro e w3 ⟨rfl, rfl⟩
  go_wp2_with fail
  refine P0.out.mono ?_
  rintro e w3 ⟨rfl, rfl⟩
  go_wp2_with fail
  go_ret
  exact ⟨rfl, HB2.out⟩
end Go.Proofs.YtnggbhpnpomfjaaDoor
