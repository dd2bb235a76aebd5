import Derived.Test.YthmmhbeafbdglaaFrCutSaid
import Derived.Test.YthmmhbeafbdglaaLawFrBack
namespace Go.Proofs.Ythmmhbeafbdglaa
open Go.RowKit Go.ChangeShapes Go.WideShapes Go.ChangeAt
theorem getD_map (ps : List Part) (k : Nat) (h : k < ps.length) : (ps.map Part.bs).getD k [] = (ps.getD k default).bs := by
  simp [List.getD_eq_getElem?_getD, List.getElem?_eq_getElem h]
theorem sizeL_next (ps : List Part) (k : Nat) (h : k < ps.length) : sizeL ((ps.map Part.bs).take (k + 1)) = sizeL ((ps.map Part.bs).take k) + 20 + (ps.getD k default).bs.length := by
  rw [← getD_map ps k h, List.take_add_one, sizeL_append, List.getElem?_map, List.getElem?_eq_getElem h]
  simp [sizeL, List.getD_eq_getElem?_getD, List.getElem?_eq_getElem h]
  omega
/-- the loop's place -/
def CutAt (ps : List Part) (a k : Nat) (e : Nat) : Prop := k ≤ ps.length ∧ e = sizeL ((ps.map Part.bs).take k) ∧ e ≤ a
set_option maxHeartbeats 2000000 in
theorem cut_core (w : World) (A : Option Addr) (cap : Nat) (ps : List Part) (hA : PartsAt w A ps) (hps : ∀ p ∈ ps, PartOk w p) (z : partsBulk ps ≤ 1048576) (hbig : ∀ p ∈ ps, p.bs.length ≤ 262144) (L : List Nat) (hL : Hid (layB 1 (ps.map Part.bs) = L)) (a t : Int) (x : Nat)
    (hll : L.length ≤ 30000000)
    (ht : a.tmod ((L.length : Int) + 1) = t) (ht1 : -(L.length : Int) ≤ t) (ht2 : t ≤ (L.length : Int)) (hk : (t + (L.length : Int) + 1) % ((L.length : Int) + 1) = (x : Int)) (hk2 : (x : Int) ≤ (L.length : Int)) :
    Calls Try.prog 12 #[.slice A ps.length cap, .int .i64 a] w (LawPost w) := by
  have hsz : sizeL (ps.map Part.bs) ≤ 30000000 := by have := size_bulk ps; omega
  have hct : ps.length ≤ 1048576 := by have := bulk_count ps; omega
  have Y := Lib.hid (lay_ok A cap ps 1 w hA hps hsz (by omega) (by omega) hbig)
  rw [hL.out] at Y
  have PA := Lib.hid hA
  have PO := Lib.hid hps
  have HBG := Lib.hid hbig
  have HSZ := Lib.hid hsz
  clear hA hps hbig hsz z
  go_enter Try.func12, Try.ntmps12
  go_wp2_with fail
  refine Y.out.mono ?_
  rintro e w1 ⟨B, k, rfl, hb1, ho1, hi1⟩
  have HB1 := Lib.hid hb1
  have HO1 := Lib.hid ho1
  have HI1 := Lib.hid hi1
  clear hb1 ho1 hi1
  go_wp2_with fail
  rw [hk]
  have HK2 := Lib.hid hk2
  clear ht ht1 ht2 hk hk2
  go_loop [7, 8] (fun sk se => ∃ (j e : Nat), j ≤ ps.length ∧ sk = .int .i64 j ∧ se = .int .i64 e ∧ Hid (e = sizeL ((ps.map Part.bs).take j)) ∧ e ≤ x) (fun sk _ => ps.length - (intOf sk).toNat)
  case atStart => exact ⟨0, 0, Nat.zero_le _, rfl, rfl, rfl, Nat.zero_le _⟩
  case round =>
    obtain ⟨j, e, hj, rfl, rfl, he, hex⟩ := hrel
    by_cases hcont : j < ps.length ∧ e + (ps.getD j default).bs.length + 20 ≤ x
    · obtain ⟨hlt, hfit⟩ := hcont
      obtain ⟨b, off, rfl, hbl, hc⟩ := parts_cell PA.out hlt
      replace hc := (HB1.out.cell (p := ⟨b, off + j, none⟩) hbl).trans hc
      have hmem : ps.getD j default ∈ ps := by rw [List.getD_eq_getElem?_getD, List.getElem?_eq_getElem hlt]; exact List.getElem_mem hlt
      have hl := HBG.out _ hmem
      have HNX := Lib.hid (sizeL_next ps j hlt)
      generalize ps.getD j default = p at hc hl hfit HNX
      obtain ⟨pA, pc, pb⟩ := p
      replace hc : w1.cell? ⟨b, off + j, none⟩ = some (.slice pA pb.length pc) := hc
      simp only at hl hfit
      have hxl : x ≤ 30000000 := by have := HK2.out; omega
      clear hmem
      go_wp2_with fail
      go_round
      case rel => exact ⟨j + 1, e + (pb.length + 20), by omega, by go_num, by go_num, by rw [HNX.out, ← he.out]; show e + (pb.length + 20) = e + 20 + pb.length; omega, by omega⟩
      case measure => simp [intOf]; omega
    · have hxl : x ≤ 30000000 := by have := HK2.out; omega
      have hW : Whole (ps.map Part.bs) x j := by
        refine ⟨by simpa using hj, by rw [← he.out]; exact hex, ?_⟩
        by_cases hlt : j < ps.length
        · right
          rw [getD_map ps j hlt, ← he.out]
          omega
        · left; simp; omega
      obtain ⟨hsc1, hsc2, hsc3⟩ := scan_cut (ps.map Part.bs) x j (x + j + 1) (by intro d hd; obtain ⟨p, hp, rfl⟩ := List.mem_map.1 hd; exact HBG.out p hp) (by simp; omega) hW (by omega)
      rw [hL.out] at hsc1 hsc2 hsc3
      rw [← he.out] at hsc2 hsc3
      have hxt : (L.take x).length = x := by have := HK2.out; simp; omega
      have hxd : ((L.take x).drop e).length = x - e := by rw [List.length_drop, hxt]
      have hgot : Calls Try.prog 28 #[.slice (subA B 0 k) x k, .int .i64 1] w1 fun e2 w' => ∃ (R : Option Addr) (cp : Nat), e2 = .returned (.tuple #[.slice R j cp, .int .i64 (e : Nat)]) ∧ Below w1.heap.size w1 w' := by
        have h := scan_got (subA B 0 k) k (L.take x) 1 (x + j + 1) w1 (HI1.out.take x) (by omega) (by omega) (by omega)
        rw [hxt, hsc1, hsc2] at h
        refine h.mono ?_
        rintro e2 w' ⟨R, cp, fs, rfl, hb, _, hp⟩
        have hl : fs.length = j := by
          have := congrArg List.length hp
          simpa [numbered_length, hj] using this
        exact ⟨R, cp, by rw [hl], hb⟩
      have hnext : ∀ W, Below w1.heap.size w1 W → Calls Try.prog 26 #[.slice (subA B e k) (x - e) (k - e)] W fun e2 w' => e2 = .returned (.tuple #[.agg #[.int .i64 0, .slice none 0 0], .int .i64 0, .int .i64 4]) ∧ Below W.heap.size W w' := fun W hW => by
        have hx2 : (L.take x).drop e = (L.drop e).take (x - e) := by rw [List.drop_take]
        have h := next_any (subA B e k) (k - e) ((L.take x).drop e) W (by rw [hx2]; exact ((HI1.out.below hW).sub e (x - e) (by have := HK2.out; omega)).1) (by omega)
        rw [hxd] at h
        refine h.mono ?_
        rintro e2 w' ⟨hb, ⟨_, rfl⟩ | ⟨h0, _⟩⟩
        · rw [hsc3]; exact ⟨rfl, hb⟩
        · omega
      have HGOT := Lib.hid hgot
      have HNEXT := Lib.hid hnext
      have hcap := HI1.out.cap
      have hLx := HK2.out
      have hs1 : ∀ W, (Instr.sliceAt 28 (.slice B L.length k) none (some (.int .i64 (x : Int))) none).run Try.prog W = .ok (.slice (subA B 0 k) x k) W := fun W => slice_to B L.length k x (by omega) W
      have hs2 : ∀ W, (Instr.sliceAt 28 (.slice B L.length k) (some (.int .i64 (e : Int))) (some (.int .i64 (x : Int))) none).run Try.prog W = .ok (.slice (subA B e k) (x - e) (k - e)) W := fun W => slice_mid B L.length k e x hex (by omega) W
      clear hW hgot hnext hsc1 hsc2 hsc3 hxt hxd hcap hLx
      by_cases hlt : j < ps.length
      · obtain ⟨b, off, rfl, hbl, hc⟩ := parts_cell PA.out hlt
        replace hc := (HB1.out.cell (p := ⟨b, off + j, none⟩) hbl).trans hc
        have hmem : ps.getD j default ∈ ps := by rw [List.getD_eq_getElem?_getD, List.getElem?_eq_getElem hlt]; exact List.getElem_mem hlt
        have hl := HBG.out _ hmem
        have hfit : ¬ (e + (ps.getD j default).bs.length + 20 ≤ x) := fun h => hcont ⟨hlt, h⟩
        clear hcont
        generalize ps.getD j default = p at hc hl hfit
        obtain ⟨pA, pc, pb⟩ := p
        replace hc : w1.cell? ⟨b, off + j, none⟩ = some (.slice pA pb.length pc) := hc
        simp only at hl hfit
        clear hmem
        go_upto_region 9 with fail
        go_wp2_with fail
        refine HGOT.out.mono ?_
        rintro e2 w2 ⟨R, cp, rfl, hb2⟩
        have HB2 := Lib.hid (HB1.out.trans (hb2.mono HB1.out.size))
        have HNX2 := Lib.hid (HNEXT.out _ hb2)
        clear hb2
        go_wp2_with fail
        refine HNX2.out.mono ?_
        rintro e3 w3 ⟨rfl, hb3⟩
        have HB3 := Lib.hid (HB2.out.trans (hb3.mono HB2.out.size))
        clear hb3
        go_wp2_with fail
        refine (falive_any _).mono ?_
        rintro e4 w4 ⟨rfl, hb4⟩
        have HB4 : Hid (Below w.heap.size w w4) := (HB3.out.alloc HB3.out.size _).trans (hb4.mono (by have := HB3.out.size; simp; omega))
        clear hb4
        go_wp2_with fail
        go_ret
        exact ⟨rfl, HB4.out⟩
      · clear hcont
        go_upto_region 9 with fail
        go_wp2_with fail
        refine HGOT.out.mono ?_
        rintro e2 w2 ⟨R, cp, rfl, hb2⟩
        have HB2 := Lib.hid (HB1.out.trans (hb2.mono HB1.out.size))
        have HNX2 := Lib.hid (HNEXT.out _ hb2)
        clear hb2
        go_wp2_with fail
        refine HNX2.out.mono ?_
        rintro e3 w3 ⟨rfl, hb3⟩
        have HB3 := Lib.hid (HB2.out.trans (hb3.mono HB2.out.size))
        clear hb3
        go_wp2_with fail
        refine (falive_any _).mono ?_
        rintro e4 w4 ⟨rfl, hb4⟩
        have HB4 : Hid (Below w.heap.size w w4) := (HB3.out.alloc HB3.out.size _).trans (hb4.mono (by have := HB3.out.size; simp; omega))
        clear hb4
        go_wp2_with fail
        go_ret
        exact ⟨rfl, HB4.out⟩
theorem law_FrameCut (w : World) (A : Option Addr) (cap : Nat) (ps : List Part) (g : PartsAt w A ps ∧ (∀ p ∈ ps, PartOk w p) ∧ ps.length ≤ cap ∧ cap ≤ maxLen) (z : partsBulk ps ≤ 1048576) (a : Int) (ha : -9223372036854775808 ≤ a ∧ a ≤ 9223372036854775807) :
    Calls Try.prog 12 #[.slice A ps.length cap, .int .i64 a] w (LawPost w) := by
  obtain ⟨hA, hps, _, _⟩ := g
  have hsz : sizeL (ps.map Part.bs) ≤ 30000000 := by have := size_bulk ps; omega
  by_cases hb : ∀ p ∈ ps, p.bs.length ≤ 262144
  · obtain ⟨L, hL⟩ : ∃ L, layB 1 (ps.map Part.bs) = L := ⟨_, rfl⟩
    have hll : L.length ≤ 30000000 := by rw [← hL, layB_length]; exact hsz
    have h1 := Int.lt_tmod_of_pos a (show (0 : Int) < (L.length : Int) + 1 by omega)
    have h2 := Int.tmod_lt_of_pos a (show (0 : Int) < (L.length : Int) + 1 by omega)
    obtain ⟨k, hk, hk2⟩ : ∃ k : Nat, (a.tmod ((L.length : Int) + 1) + (L.length : Int) + 1) % ((L.length : Int) + 1) = (k : Int) ∧ k ≤ L.length := by
      have h3 := Int.emod_nonneg (a.tmod ((L.length : Int) + 1) + (L.length : Int) + 1) (show (L.length : Int) + 1 ≠ 0 by omega)
      have h4 := Int.emod_lt_of_pos (a.tmod ((L.length : Int) + 1) + (L.length : Int) + 1) (show (0 : Int) < (L.length : Int) + 1 by omega)
      exact ⟨_, (Int.toNat_of_nonneg h3).symm, by omega⟩
    exact cut_core w A cap ps hA hps z hb L hL a _ k hll rfl (by omega) (by omega) hk (by omega)
  · have Y := Lib.hid (lay_bad A cap ps 1 w hA hps hsz (by omega) (by omega) hb)
    clear hA hps hb hsz z
    go_enter Try.func12, Try.ntmps12
    go_wp2_with fail
    refine Y.out.mono ?_
    rintro e w1 ⟨rfl, hb1⟩
    have HB1 := Lib.hid hb1
    clear hb1
    go_wp2_with fail
    refine (falive_any _).mono ?_
    rintro e w2 ⟨rfl, hb2⟩
    have HB2 := Lib.hid (HB1.out.trans (hb2.mono HB1.out.size))
    clear hb2
    go_wp2_with fail
    go_ret
    exact ⟨rfl, HB2.out⟩
end Go.Proofs.Ythmmhbeafbdglaa
