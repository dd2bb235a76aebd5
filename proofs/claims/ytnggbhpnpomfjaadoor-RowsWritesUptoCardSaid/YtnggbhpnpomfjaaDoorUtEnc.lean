/- Walks: signs' bytes, the program's and the document's. Conditions: the numbers lie as a row of int; no more than 2^44 of them. -/
import Derived.Test.YtnggbhpnpomfjaaDoorUtWalk
import Derived.Test.YtnggbhpnpomfjaaDoorBuild
set_option linter.unusedVariables false
namespace Go.Proofs.YtnggbhpnpomfjaaDoor
open Go.RowKit
/-- numbers that lie in a row -/
structure IntsIn (w : World) (A : Option Addr) (c : Nat) (zs : List Int) : Prop where
  at_ : ∀ i, i < zs.length → ∃ b off, A = some ⟨b, off, none⟩ ∧ b < w.heap.size ∧ w.cell? ⟨b, off + i, none⟩ = some (.int .i64 (zs.getD i 0))
  rng : ∀ i, i < zs.length → -9223372036854775808 ≤ zs.getD i 0 ∧ zs.getD i 0 ≤ 9223372036854775807
  cap : zs.length ≤ c
  len : zs.length ≤ 17592186044416
theorem IntsIn.below {w w' : World} {A : Option Addr} {c : Nat} {zs : List Int} (g : IntsIn w A c zs) (hb : Below w.heap.size w w') : IntsIn w' A c zs :=
  ⟨fun i hi => by
    obtain ⟨b, off, h1, h2, h3⟩ := g.at_ i hi
    exact ⟨b, off, h1, Nat.lt_of_lt_of_le h2 hb.size, (hb.cell (p := ⟨b, off + i, none⟩) h2).trans h3⟩, g.rng, g.cap, g.len⟩
def encOk (zs : List Int) : Bool := zs.all signB
theorem encOk_take {zs : List Int} {k : Nat} (hk : k < zs.length) : encOk (zs.take (k + 1)) = (encOk (zs.take k) && signB (zs.getD k 0)) := by
  unfold encOk
  rw [List.take_succ_eq_append_getElem hk, List.all_append]
  simp [List.getD_eq_getElem?_getD, hk]
theorem encL_take {zs : List Int} {k : Nat} (hk : k < zs.length) : encL (zs.take (k + 1)) = encL (zs.take k) ++ Lib.encodeRune (zs.getD k 0) := by
  rw [List.take_succ_eq_append_getElem hk, encL_append]
  simp [encL, List.getD_eq_getElem?_getD, hk]
theorem encOk_false {zs : List Int} {k : Nat} (hk : k < zs.length) (h : signB (zs.getD k 0) = false) : encOk zs = false := by
  unfold encOk
  rw [List.all_eq_false]
  refine ⟨zs.getD k 0, ?_, by rw [h]; simp⟩
  rw [List.getD_eq_getElem?_getD, List.getElem?_eq_getElem hk]
  exact List.getElem_mem hk
def encV (zs : List Int) : Value := if encOk zs = true then .tuple #[.string ⟨(encL zs).toArray⟩, .int .i64 0] else .tuple #[.string ⟨#[]⟩, .int .i64 8]
set_option maxHeartbeats 1600000 in
theorem encode_any (A : Option Addr) (c : Nat) (zs : List Int) (w : World) (g : IntsIn w A c zs) :
    Calls Tryd.prog 19 #[.slice A zs.length c] w fun e w' => e = .returned (encV zs) ∧ Below w.heap.size w w' := by
  have G := Lib.hid g
  have hlen := g.len
  have HE0 : Hid (encOk [] = true ∧ encL [] = []) := ⟨rfl, rfl⟩
  have HI0 := Lib.hid (Lib.IsBuilderF.of (Lib.fresh_isBuilder 76 5 w))
  have HB0 := Lib.hid ((Below.refl w.heap.size w).alloc (Nat.le_refl _) (.cells #[.pointer none, .slice none 0 0] 76))
  clear g
  go_enter Tryd.func19, Tryd.ntmps19
  go_wp2_with fail
  go_loopw [9] (fun v wr => ∃ k : Nat, k ≤ zs.length ∧ v = .int .i64 (k : Nat) ∧ Hid (encOk (zs.take k) = true) ∧ Hid (Lib.IsBuilderF 76 5 w.heap.size w.heap.size (Lib.byteCells (encL (zs.take k))) wr) ∧ Hid (Below w.heap.size w wr)) (fun v _ => zs.length - (intOf v).toNat)
  case atStart => exact ⟨0, Nat.zero_le _, rfl, HE0.out.1, HI0.out, HB0.out⟩
  case round =>
    obtain ⟨k, hk, rfl, ho, hi, hb⟩ := hrel
    by_cases hlt : k < zs.length
    · have hlt' : (k : Int) < (zs.length : Int) := by omega
      obtain ⟨b, off, hA, hbl, hc⟩ := (G.out.below hb.out).at_ k hlt
      have hrg := G.out.rng k hlt
      have HOK := Lib.hid (encOk_take hlt)
      have HEL := Lib.hid (encL_take hlt)
      have HNO := Lib.hid (fun h => encOk_false (zs := zs) hlt h)
      have HEB := encL_length (zs.take k)
      rw [List.length_take] at HEB
      subst hA
      generalize zs.getD k 0 = n at hc hrg HOK HEL HNO
      obtain ⟨hr1, hr2⟩ := hrg
      by_cases h0 : n < 0
      · have hs : Hid (encV zs = .tuple #[.string ⟨#[]⟩, .int .i64 8]) := by show _ = _; unfold encV; rw [HNO.out (signB_not.2 (by omega))]; rfl
        clear HEB
        go_wp2_with fail
        go_ret2
        exact ⟨by rw [hs.out]; rfl, hb.out⟩
      · have h0' : decide (n < 0) = false := by simpa using h0
        by_cases h1 : 1114111 < n
        · have hs : Hid (encV zs = .tuple #[.string ⟨#[]⟩, .int .i64 8]) := by show _ = _; unfold encV; rw [HNO.out (signB_not.2 (by omega))]; rfl
          clear HEB
          go_wp2_with fail
          go_ret2
          exact ⟨by rw [hs.out]; rfl, hb.out⟩
        · have h1' : decide (1114111 < n) = false := by simpa using h1
          have hw : IntKind.i32.wrap n = n := IntWalk.i32_in _ ⟨by omega, by omega⟩
          have h1n : n ≤ 1114111 := by omega
          have h0n : 0 ≤ n := by omega
          have hv : Lib.validRune n = signB n := by
            unfold Lib.validRune signB
            rw [decide_eq_decide]
            constructor <;> intro h <;> omega
          have VR := Lib.hid (Tryd.utf8_ValidRune n wr)
          rw [hv] at VR
          clear hv
          go_wp2_with fail
          refine VR.out.mono ?_
          rintro e w1 ⟨rfl, hw1⟩
          subst hw1
          cases hs : signB n with
          | false =>
            have hs : Hid (encV zs = .tuple #[.string ⟨#[]⟩, .int .i64 8]) := by show _ = _; unfold encV; rw [HNO.out hs]; rfl
            clear HEB
            go_wp2_with fail
            go_ret2
            exact ⟨by rw [hs.out]; rfl, hb.out⟩
          | true =>
            have HS := Lib.hid hs
            have W := Lib.hid (writeRune_any w.heap.size w.heap.size (Lib.byteCells (encL (zs.take k))) n (by omega) (by omega) w1 hi.out (by rw [Lib.byteCells_length]; omega) hb.out.size)
            clear HEB hs
            go_wp2_with fail
            refine W.out.mono ?_
            rintro e w2 ⟨rfl, hI, hB, hK⟩
            have HI := Lib.hid hI
            have HB := Lib.hid (hb.out.trans hB)
            clear hI hB hK
            go_wp2_with fail
            go_roundw
            case rel => exact ⟨k + 1, by omega, by go_num, by rw [HOK.out, ho.out, HS.out]; rfl, Or.inr (by rw [HEL.out, Lib.byteCells_append, Lib.byteCells_encodeRune]; exact HI.out), HB.out⟩
            case measure => simp [intOf]; omega
    · obtain rfl : k = zs.length := by omega
      rw [List.take_length] at ho hi
      have S := Lib.hid (Tryd.Builder_String_any_k w.heap.size w.heap.size (encL zs) wr hi.out hb.out.size)
      have HV : Hid (encV zs = .tuple #[.string ⟨(encL zs).toArray⟩, .int .i64 0]) := by show _ = _; unfold encV; rw [if_pos ho.out]
      clear hi ho
      go_wp2_with fail
      refine S.out.mono ?_
      rintro e w2 ⟨rfl, _, hB, _⟩
      have HB := Lib.hid (hb.out.trans hB)
      clear hB
      go_wp2_with fail
      go_ret2
      exact ⟨by rw [HV.out]; rfl, HB.out⟩
end Go.Proofs.YtnggbhpnpomfjaaDoor
