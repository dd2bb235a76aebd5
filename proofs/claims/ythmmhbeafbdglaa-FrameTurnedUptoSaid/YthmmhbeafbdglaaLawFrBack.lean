import Derived.Test.YthmmhbeafbdglaaFrSaid
import Derived.Test.YthmmhbeafbdglaaOpenUp
import Derived.BigQuiet
namespace Go.Proofs.Ythmmhbeafbdglaa
open Go.RowKit Go.ChangeShapes Go.WideShapes Go.ChangeAt
theorem size_bulk (ps : List Part) : sizeL (ps.map Part.bs) ≤ 20 * partsBulk ps := by
  induction ps with
  | nil => simp [sizeL, partsBulk]
  | cons p r ih => simp [sizeL, partsBulk] at ih ⊢; omega
theorem bulk_count (ps : List Part) : ps.length ≤ partsBulk ps := by
  induction ps with
  | nil => simp [partsBulk]
  | cons p r ih => simp [partsBulk] at ih ⊢; omega
theorem below_dN {B : Nat} {a w : World} (h : Below B a w) (n : Nat) : Below B a (w.drewN n) := below_ddrewN h n
set_option maxHeartbeats 1600000 in
theorem law_FrameBack (w : World) (A : Option Addr) (cap : Nat) (ps : List Part) (g : PartsAt w A ps ∧ (∀ p ∈ ps, PartOk w p) ∧ ps.length ≤ cap ∧ cap ≤ maxLen) (z : partsBulk ps ≤ 1048576) (n : Nat) (hn : n < 4294967296) :
    Calls Try.prog 11 #[.slice A ps.length cap, .int .u32 (n : Nat)] w (LawPost w) := by
  obtain ⟨hA, hps, _, _⟩ := g
  have hsz : sizeL (ps.map Part.bs) ≤ 30000000 := by have := size_bulk ps; omega
  have hct : ps.length ≤ 1048576 := by have := bulk_count ps; omega
  have hcv : IntKind.i64.wrap (n : Int) = (n : Int) := by rw [IntKind.wrap_i64]; omega
  obtain ⟨s, HSN⟩ : ∃ s, Hid (n + 1 = s) := ⟨_, rfl⟩
  have hw1 : IntKind.i64.wrap ((n : Int) + 1) = (s : Int) := by have := HSN.out; rw [IntKind.wrap_i64]; omega
  have hs1 : 1 ≤ s := by have := HSN.out; omega
  have hs2 : s ≤ 4294967296 := by have := HSN.out; omega
  by_cases hb : ∀ p ∈ ps, p.bs.length ≤ 262144
  · have Y := Lib.hid (lay_ok A cap ps s w hA hps hsz hs1 hs2 hb)
    have PA := Lib.hid hA
    have PO := Lib.hid hps
    have HBG := Lib.hid hb
    have HS1 := Lib.hid hs1
    have HS2 := Lib.hid hs2
    have HSZ := Lib.hid hsz
    have hsc := scan_laid (ps.map Part.bs) s ((layB s (ps.map Part.bs)).length + 1) (by intro d hd; obtain ⟨p, hp, rfl⟩ := List.mem_map.1 hd; exact hb p hp) hs1 (by simp; omega) (by rw [layB_length]; have := sizeL_ge (ps.map Part.bs); omega)
    have hsc2 := scan_other (ps.map Part.bs) s ((layB s (ps.map Part.bs)).length + 1) (by intro d hd; obtain ⟨p, hp, rfl⟩ := List.mem_map.1 hd; exact hb p hp) (by omega)
    have hls := layB_length (ps.map Part.bs) s
    rw [← hls] at hsc
    generalize layB s (ps.map Part.bs) = L at Y hsc hsc2 hls
    have HSC := Lib.hid hsc
    have HSC2 := Lib.hid hsc2
    have HLS := Lib.hid hls
    clear hsc hsc2 hls
    obtain ⟨s2, HS2N⟩ : ∃ s2, Hid (s + 1 = s2) := ⟨_, rfl⟩
    have hw2 : IntKind.i64.wrap ((s : Int) + 1) = (s2 : Int) := by have := HS2N.out; rw [IntKind.wrap_i64]; omega
    clear hA hps hb hs1 hs2 hsz z
    go_enter Try.func11, Try.ntmps11
    go_wp2_with fail
    refine Y.out.mono ?_
    rintro e w1 ⟨B, k, rfl, hb1, ho1, hi1⟩
    have HB1 := Lib.hid hb1
    have HO1 := Lib.hid ho1
    have HI1 := Lib.hid hi1
    clear hb1 ho1 hi1
    have hgot : Calls Try.prog 28 #[.slice B L.length k, .int .i64 (s : Nat)] w1 fun e w' => ∃ (R : Option Addr) (cp : Nat) (fs : List FrN), e = .returned (.tuple #[.slice R ps.length cp, .int .i64 (L.length : Nat)]) ∧ Below w1.heap.size w1 w' ∧ ScanGot w' R fs ∧ fs.map FrN.pair = numbered s (ps.map Part.bs) ∧ fs.length = ps.length := by
      refine (scan_got B k L s (L.length + 1) w1 HI1.out (by omega) (by have := HLS.out; have := HSZ.out; omega) HS1.out).mono ?_
      rintro e w' ⟨R, cp, fs, rfl, hb, hg, hp⟩
      rw [HSC.out.1] at hp
      have hl : fs.length = ps.length := by
        have := congrArg List.length hp
        simpa [numbered_length] using this
      rw [HSC.out.2]
      exact ⟨R, cp, fs, by rw [hl], hb, hg, hp, hl⟩
    have HGOT := Lib.hid hgot
    clear hgot
    go_wp2_with fail
    refine HGOT.out.mono ?_
    rintro e w2 ⟨R, cp, fs, rfl, hb2, hg2, hp2, hl2⟩
    have HB2 := Lib.hid (HB1.out.trans (hb2.mono HB1.out.size))
    have HI2 := Lib.hid (HI1.out.below hb2)
    have HG2 := Lib.hid hg2
    have HP2 := Lib.hid hp2
    have HLN := Lib.hid hl2
    clear hb2 hg2 hp2 hl2
    go_wp2_with fail
    go_loopw [45] (fun i wr => ∃ k : Nat, k ≤ ps.length ∧ i = .int .i64 k ∧ Below w2.heap.size w2 wr) (fun i _ => ps.length - (intOf i).toNat)
    case atStart => exact ⟨0, Nat.zero_le _, rfl, Below.refl _ _⟩
    case round =>
      obtain ⟨j, hj, rfl, hbr⟩ := hrel
      have HBR := Lib.hid hbr
      clear hbr
      by_cases hlt : j < ps.length
      · obtain ⟨b, off, rfl, hbl, hc⟩ := parts_cell PA.out hlt
        have hmem : ps.getD j default ∈ ps := by rw [List.getD_eq_getElem?_getD, List.getElem?_eq_getElem hlt]; exact List.getElem_mem hlt
        have hbw : Below w.heap.size w wr := HB2.out.trans (HBR.out.mono HB2.out.size)
        have hok := ((PO.out _ hmem).below hbw).into
        replace hc := (hbw.cell (p := ⟨b, off + j, none⟩) hbl).trans hc
        have hg := HG2.out.below HBR.out
        have hjf : j < fs.length := by have := HLN.out; omega
        have hpair : (fs.getD j default).seq = s + j ∧ (fs.getD j default).bs = (ps.getD j default).bs := by
          have e := congrArg (fun l => l[j]?) HP2.out
          simp only [List.getElem?_map, numbered_get, List.getElem?_eq_getElem hjf, List.getElem?_eq_getElem hlt, Option.map_some, FrN.pair, Option.some.injEq, Prod.mk.injEq] at e
          simpa [List.getD_eq_getElem?_getD, List.getElem?_eq_getElem hjf, List.getElem?_eq_getElem hlt] using e
        have hmf : fs.getD j default ∈ fs := by rw [List.getD_eq_getElem?_getD, List.getElem?_eq_getElem hjf]; exact List.getElem_mem hjf
        have hfin := hg.each _ hmf
        obtain ⟨b2, rfl, hb2l, hc0, hc1⟩ := hg.cell j hjf
        generalize fs.getD j default = f at hpair hfin hc0 hc1
        generalize ps.getD j default = p at hpair hok hc
        obtain ⟨fq, fA, fc, fb⟩ := f
        obtain ⟨pA, pc, pb⟩ := p
        obtain ⟨hq1, hq2⟩ := hpair
        simp only at hq1 hq2 hfin hok
        subst hq2
        replace hc : wr.cell? ⟨b, off + j, none⟩ = some (.slice pA fb.length pc) := hc
        replace hc0 : wr.cell? ⟨b2, j * 2, none⟩ = some (.int .i64 (fq : Nat)) := by rw [Nat.mul_comm]; exact hc0
        replace hc1 : wr.cell? ⟨b2, j * 2 + 1, none⟩ = some (.slice fA fb.length fc) := by rw [Nat.mul_comm]; exact hc1
        have hwq : IntKind.i64.wrap ((s : Int) + (j : Int)) = (fq : Int) := by have := HS2.out; rw [IntKind.wrap_i64]; omega
        have kx : ∀ m, (convert 28 9 (.slice fA fb.length fc)).run Try.prog (wr.drewN m) = .ok (.string (strOf fb)) (wr.drewN m) := fun m => conv_bytes fA fc fb (wr.drewN m) hfin.at_
        have ky : ∀ m, (convert 28 9 (.slice pA fb.length pc)).run Try.prog (wr.drewN m) = .ok (.string (strOf fb)) (wr.drewN m) := fun m => conv_bytes pA pc fb (wr.drewN m) hok.at_
        generalize strOf fb = str at kx ky
        have HQ1 := Lib.hid hq1
        clear hq1 hg hok hfin hmf hjf hmem hbw
        go_wp2_with fail
        go_quiet (fail)
        go_wp2_with fail
        go_roundw
        case rel => exact ⟨j + 1, by omega, by go_num, below_dN HBR.out _⟩
        case measure => simp [intOf]; omega
      · obtain rfl : j = ps.length := by omega
        have hnone : Calls Try.prog 28 #[.slice B L.length k, .int .i64 (s2 : Nat)] wr fun e w' => ∃ (R' : Option Addr) (cp' : Nat), e = .returned (.tuple #[.slice R' 0 cp', .int .i64 0]) ∧ Below wr.heap.size wr w' := by
          refine (scan_got B k L s2 (L.length + 1) wr (HI2.out.below HBR.out) (by omega) (by have := HLS.out; have := HSZ.out; omega) (by have := HS2N.out; omega)).mono ?_
          rintro e w' ⟨R', cp', fs', rfl, hb, _, hp⟩
          rw [← HS2N.out, HSC2.out.1] at hp
          rw [← HS2N.out, HSC2.out.2]
          have h0 : fs' = [] := List.map_eq_nil_iff.1 hp
          subst h0
          exact ⟨R', cp', rfl, hb⟩
        have HNONE := Lib.hid hnone
        have HBW := Lib.hid (HB2.out.trans (HBR.out.mono HB2.out.size))
        clear hnone
        go_wp2_with fail
        refine HNONE.out.mono ?_
        rintro e w3 ⟨R', cp', rfl, hb3⟩
        have HB3 := Lib.hid (HBW.out.trans (hb3.mono HBW.out.size))
        clear hb3
        go_wp2_with fail
        refine (falive_any _).mono ?_
        rintro e w4 ⟨rfl, hb4⟩
        have HB4 := Lib.hid (HB3.out.trans (hb4.mono HB3.out.size))
        clear hb4
        go_wp2_with fail
        go_ret
        exact ⟨rfl, HB4.out⟩
  · have Y := Lib.hid (lay_bad A cap ps s w hA hps hsz hs1 hs2 hb)
    clear hA hps hb hs1 hs2 hsz z
    go_enter Try.func11, Try.ntmps11
    go_wp2_with fail
    refine Y.out.mono ?_
    rintro e w1 ⟨rfl, hb1⟩
    have HB1 := Lib.hid hb1
    clear hb1
    go_wp2_with fail
    refine (falive_any _).mono ?_
    rintro e w2 ⟨rfl, hb2⟩
    have HB2 := Lib.hid (HB1.out.trans (hb2.mono HB1.out.size))
    clear hb2
    go_wp2_with fail
    go_ret
    exact ⟨rfl, HB2.out⟩
end Go.Proofs.Ythmmhbeafbdglaa
