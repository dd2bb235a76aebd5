import Derived.Test.YthmmhbeafbdglaaFrTurnSaid
import Derived.Test.YthmmhbeafbdglaaLawFrCut
import Derived.StillTailTactics
namespace Go.Proofs.Ythmmhbeafbdglaa
open Go.RowKit Go.ChangeShapes Go.WideShapes Go.ChangeAt
theorem wpStill_gen {P : Program} {ops : Array Oper} {w : World} {Q : Act → Prop} {l : List Oper} {a : Act} (h : ∀ K : Act → Prop, Hid (∀ a, Q a → K a) → wpStill P ops w K l a) : wpStill P ops w Q l a := h Q (fun _ h => h)
theorem whole_lt {l : List (List Nat)} {a k : Nat} (hw : Whole l a k) (ha : a < sizeL l) : k < l.length := by
  obtain ⟨hk, he, hw⟩ := hw
  rcases Nat.lt_or_ge k l.length with h | h
  · exact h
  · have : k = l.length := by omega
    subst this
    rw [List.take_length] at he
    omega
set_option maxHeartbeats 2000000 in
theorem turn_core (w : World) (A : Option Addr) (cap : Nat) (ps : List Part) (hA : PartsAt w A ps) (hps : ∀ p ∈ ps, PartOk w p) (z : partsBulk ps ≤ 1048576) (hbig : ∀ p ∈ ps, p.bs.length ≤ 262144) (L : List Nat) (hL : Hid (layB 1 (ps.map Part.bs) = L)) (a t : Int) (x q : Nat) (hb0 : q ≠ 0) (hb256 : q < 256) (hLp : 0 < L.length)
    (hll : L.length ≤ 30000000)
    (ht : a.tmod (L.length : Int) = t) (ht1 : -(L.length : Int) < t) (ht2 : t < (L.length : Int)) (hk : (t + (L.length : Int)) % (L.length : Int) = (x : Int)) (hk2 : (x : Int) < (L.length : Int)) :
    Calls Try.prog 13 #[.slice A ps.length cap, .int .i64 a, .int .u8 (q : Nat)] w (LawPost w) := by
  have hsz : sizeL (ps.map Part.bs) ≤ 30000000 := by have := size_bulk ps; omega
  have hct : ps.length ≤ 1048576 := by have := bulk_count ps; omega
  have Y := Lib.hid (lay_ok A cap ps 1 w hA hps hsz (by omega) (by omega) hbig)
  rw [hL.out] at Y
  have hbb : ((q : Int) == 0) = false := beq_eq_false_iff_ne.2 (by omega)
  have hLL : ((L.length : Int) == 0) = false := beq_eq_false_iff_ne.2 (by omega)
  have HB0 := Lib.hid hb0
  have HB256 := Lib.hid hb256
  clear hb0 hb256
  have PA := Lib.hid hA
  have PO := Lib.hid hps
  have HBG := Lib.hid hbig
  have HSZ := Lib.hid hsz
  clear hA hps hbig hsz z
  go_enter Try.func13, Try.ntmps13
  go_wp2_with fail
  refine Y.out.mono ?_
  rintro e w1 ⟨B, k, rfl, hb1, ho1, hi1⟩
  have HB1 := Lib.hid hb1
  have HO1 := Lib.hid ho1
  have HI1 := Lib.hid hi1
  clear hb1 ho1 hi1
  go_wp2_with fail
  rw [hk]
  have HK2 := Lib.hid hk2
  clear ht ht1 ht2 hk hk2
  go_loop [9, 10] (fun sk se => ∃ (j e : Nat), j ≤ ps.length ∧ sk = .int .i64 j ∧ se = .int .i64 e ∧ Hid (e = sizeL ((ps.map Part.bs).take j)) ∧ e ≤ x) (fun sk _ => ps.length - (intOf sk).toNat)
  case atStart => exact ⟨0, 0, Nat.zero_le _, rfl, rfl, rfl, Nat.zero_le _⟩
  case round =>
    obtain ⟨j, e, hj, rfl, rfl, he, hex⟩ := hrel
    by_cases hcont : j < ps.length ∧ e + (ps.getD j default).bs.length + 20 ≤ x
    · obtain ⟨hlt, hfit⟩ := hcont
      obtain ⟨b, off, rfl, hbl, hc⟩ := parts_cell PA.out hlt
      replace hc := (HB1.out.cell (p := ⟨b, off + j, none⟩) hbl).trans hc
      have hmem : ps.getD j default ∈ ps := by rw [List.getD_eq_getElem?_getD, List.getElem?_eq_getElem hlt]; exact List.getElem_mem hlt
      have hl := HBG.out _ hmem
      have HNX := Lib.hid (sizeL_next ps j hlt)
      generalize ps.getD j default = p at hc hl hfit HNX
      obtain ⟨pA, pc, pb⟩ := p
      replace hc : w1.cell? ⟨b, off + j, none⟩ = some (.slice pA pb.length pc) := hc
      simp only at hl hfit
      have hxl : x ≤ 30000000 := by have := HK2.out; omega
      clear hmem
      go_wp2_with fail
      go_round
      case rel => exact ⟨j + 1, e + (pb.length + 20), by omega, by go_num, by go_num, by rw [HNX.out, ← he.out]; show e + (pb.length + 20) = e + 20 + pb.length; omega, by omega⟩
      case measure => simp [intOf]; omega
    · have hxl : x ≤ 30000000 := by have := HK2.out; omega
      have hxL : x < L.length := by have := HK2.out; omega
      have hW : Whole (ps.map Part.bs) x j := by
        refine ⟨by simpa using hj, by rw [← he.out]; exact hex, ?_⟩
        by_cases hlt : j < ps.length
        · right
          rw [getD_map ps j hlt, ← he.out]
          omega
        · left; simp; omega
      obtain ⟨gb, rfl, hgb, hcl, hfz, hset⟩ := bytes_set HO1.out HI1.out.bytes hxL
      obtain ⟨v, hv256, hvne, hxor⟩ := xor_ne (L.getD x 0) q (HI1.out.bytes.getD x) HB256.out HB0.out
      have hjl : j < ps.length := by
        have := whole_lt hW (by rw [← layB_length (ps.map Part.bs) 1, hL.out]; exact hxL)
        simpa using this
      have hgot : Calls Try.prog 28 #[.slice (some ⟨gb, 0, none⟩) L.length k, .int .i64 1] (w1.setCell ⟨gb, x, none⟩ (.int .u8 (v : Nat))) fun e2 w' => ∃ (R : Option Addr) (cp n : Nat) (fs : List FrN), e2 = .returned (.tuple #[.slice R fs.length cp, .int .i64 (n : Nat)]) ∧ Below w1.heap.size (w1.setCell ⟨gb, x, none⟩ (.int .u8 (v : Nat))) w' ∧ ScanGot w' R fs ∧ j ≤ fs.length ∧ (∀ i, i < j → (fs.getD i default).bs = (ps.map Part.bs).getD i []) ∧ (fs.length = j ∨ (j < fs.length ∧ (fs.getD j default).bs ≠ (ps.map Part.bs).getD j [])) := by
        have h := scan_got (some ⟨gb, 0, none⟩) k (L.set x v) 1 (L.length + 1 + j) _ (hset v hv256) (by simp; omega) (by simp; omega) (by omega)
        rw [List.length_set] at h
        refine h.mono ?_
        rintro e2 w' ⟨R, cp, fs, rfl, hb, hg, hp⟩
        obtain ⟨_, h2, h3, h4⟩ := turned_got (ps.map Part.bs) L hL.out (by intro d hd; obtain ⟨p, hp, rfl⟩ := List.mem_map.1 hd; exact (PO.out p hp).bytes) x v j (L.length + 1 + j) (by intro d hd; obtain ⟨p, hp, rfl⟩ := List.mem_map.1 hd; exact HBG.out p hp) (by simp; omega) hW hxL (by omega) hv256 hvne fs hp
        exact ⟨R, cp, _, fs, rfl, hb.mono (by simp [World.setCell]), hg, h2, h3, h4⟩
      have HGOT := Lib.hid hgot
      have HBX : Hid (Below w.heap.size w (w1.setCell ⟨gb, x, none⟩ (.int .u8 (v : Nat)))) := HB1.out.setCell hgb _
      generalize L.getD x 0 = c at hcl hxor hvne
      obtain ⟨b, off, rfl, hbl, hc⟩ := parts_cell PA.out hjl
      replace hc := (HB1.out.cell (p := ⟨b, off + j, none⟩) hbl).trans hc
      have hmem : ps.getD j default ∈ ps := by rw [List.getD_eq_getElem?_getD, List.getElem?_eq_getElem hjl]; exact List.getElem_mem hjl
      have hl := HBG.out _ hmem
      have hfit : ¬ (e + (ps.getD j default).bs.length + 20 ≤ x) := fun h => hcont ⟨hjl, h⟩
      clear hcont hgot hset hvne hW
      generalize ps.getD j default = p at hc hl hfit
      obtain ⟨pA, pc, pb⟩ := p
      replace hc : w1.cell? ⟨b, off + j, none⟩ = some (.slice pA pb.length pc) := hc
      simp only at hl hfit
      clear hmem
      go_wp2_with fail
      refine HGOT.out.mono ?_
      rintro e2 w2 ⟨R, cp, nn, fs, rfl, hb2, hg2, h2, h3, h4⟩
      have HB2 : Hid (Below w.heap.size w w2) := HBX.out.trans (hb2.mono HB1.out.size)
      have HG2 := Lib.hid hg2
      have H3 := Lib.hid h3
      have H4 := Lib.hid h4
      have hnl : ¬ ((fs.length : Int) < (j : Int)) := by omega
      clear hb2 hg2 h3 h4
      go_wp2_with fail
      go_loopw [84] (fun i wr => ∃ m : Nat, m ≤ j ∧ i = .int .i64 m ∧ Below w2.heap.size w2 wr) (fun i _ => j - (intOf i).toNat)
      case atStart => exact ⟨0, Nat.zero_le _, rfl, Below.refl _ _⟩
      case round =>
        obtain ⟨m, hm, rfl, hbr⟩ := hrel
        have HBR := Lib.hid hbr
        have hbw : Below w.heap.size w wr := HB2.out.trans (hbr.mono HB2.out.size)
        have HBW := Lib.hid hbw
        clear hbr
        by_cases hlt : m < j
        · have hmp : m < ps.length := by omega
          obtain ⟨b', off', hAA, hbl', hc'⟩ := parts_cell PA.out hmp
          cases hAA
          replace hc' := (hbw.cell (p := ⟨b, off + m, none⟩) hbl').trans hc'
          have hmem : ps.getD m default ∈ ps := by rw [List.getD_eq_getElem?_getD, List.getElem?_eq_getElem hmp]; exact List.getElem_mem hmp
          have hok := ((PO.out _ hmem).below hbw).into
          have hg := HG2.out.below HBR.out
          have hjf : m < fs.length := by omega
          have hpair : (fs.getD m default).bs = (ps.getD m default).bs := by rw [H3.out m hlt, getD_map ps m hmp]
          have hmf : fs.getD m default ∈ fs := by rw [List.getD_eq_getElem?_getD, List.getElem?_eq_getElem hjf]; exact List.getElem_mem hjf
          have hfin := hg.each _ hmf
          obtain ⟨b2, hR, hb2l, hc0, hc1⟩ := hg.cell m hjf
          subst hR
          generalize fs.getD m default = f at hpair hfin hc0 hc1
          generalize ps.getD m default = p' at hpair hok hc'
          obtain ⟨fq, fA, fc, fb⟩ := f
          obtain ⟨pA', pc', pb'⟩ := p'
          simp only at hpair hfin hok
          subst hpair
          replace hc' : wr.cell? ⟨b, off + m, none⟩ = some (.slice pA' fb.length pc') := hc'
          replace hc1 : wr.cell? ⟨b2, m * 2 + 1, none⟩ = some (.slice fA fb.length fc) := by rw [Nat.mul_comm]; exact hc1
          have kx : ∀ m, (convert 28 9 (.slice fA fb.length fc)).run Try.prog (wr.drewN m) = .ok (.string (strOf fb)) (wr.drewN m) := fun m => conv_bytes fA fc fb (wr.drewN m) hfin.at_
          have ky : ∀ m, (convert 28 9 (.slice pA' fb.length pc')).run Try.prog (wr.drewN m) = .ok (.string (strOf fb)) (wr.drewN m) := fun m => conv_bytes pA' pc' fb (wr.drewN m) hok.at_
          generalize strOf fb = str at kx ky
          clear hg hok hfin hmf hjf hmem hbw hc0
          go_wp2_with fail
          go_quiet (fail)
          go_wp2_with fail
          go_roundw
          case rel => exact ⟨m + 1, by omega, by go_num, below_dN HBR.out _⟩
          case measure => simp [intOf]; omega
        · obtain rfl : m = j := by omega
          clear hbw
          rcases H4.out with h4 | ⟨h4, h5⟩
          · have hq : (fs.length == m) = true := beq_iff_eq.2 h4
            have hq2 : ((fs.length : Int) = (m : Int)) = True := eq_true (by omega)
            clear h4
            go_wp2_with fail
            refine wp_region_still_tail 19 (by kernel_rfl) (by kernel_rfl) ?_
            simp only [List.take_succ_cons, List.take_zero, List.drop_succ_cons, List.drop_zero]
            change wpStill _ _ wr.drew _ _ _
            iterate 19 still_step
            refine wpStill_nil ?_
            change wpList _ _ _ _ _ wr.drew
            have HBD : Hid (Below w.heap.size w wr.drew) := HBW.out.drew
            generalize wr.drew = wd at HBD ⊢
            go_wp2_with fail
            refine (falive_any _).mono ?_
            rintro e4 w4 ⟨rfl, hb4⟩
            have HB4 : Hid (Below w.heap.size w w4) := HBD.out.trans (hb4.mono HBD.out.size)
            clear hb4
            go_wp2_with fail
            go_ret
            exact ⟨rfl, HB4.out⟩
          · have hmp : m < ps.length := hjl
            have hq : (fs.length == m) = false := beq_eq_false_iff_ne.2 (by omega)
            have hq2 : ((fs.length : Int) = (m : Int)) = False := eq_false (by omega)
            obtain ⟨b', off', hAA, hbl', hc'⟩ := parts_cell PA.out hmp
            cases hAA
            replace hc' := (HBW.out.cell (p := ⟨b, off + m, none⟩) hbl').trans hc'
            have hmem : ps.getD m default ∈ ps := by rw [List.getD_eq_getElem?_getD, List.getElem?_eq_getElem hmp]; exact List.getElem_mem hmp
            have hok := ((PO.out _ hmem).below HBW.out).into
            have hg := HG2.out.below HBR.out
            have hmf : fs.getD m default ∈ fs := by rw [List.getD_eq_getElem?_getD, List.getElem?_eq_getElem h4]; exact List.getElem_mem h4
            have hfin := hg.each _ hmf
            rw [getD_map ps m hmp] at h5
            obtain ⟨b2, hR, hb2l, hc0, hc1⟩ := hg.cell m h4
            subst hR
            generalize fs.getD m default = f at h5 hfin hc0 hc1
            generalize ps.getD m default = p' at h5 hok hc'
            obtain ⟨fq, fA, fc, fb⟩ := f
            obtain ⟨pA', pc', pb'⟩ := p'
            simp only at h5 hfin hok
            replace hc' : wr.cell? ⟨b, off + m, none⟩ = some (.slice pA' pb'.length pc') := hc'
            replace hc1 : wr.cell? ⟨b2, m * 2 + 1, none⟩ = some (.slice fA fb.length fc) := by rw [Nat.mul_comm]; exact hc1
            have kx : (convert 28 9 (.slice fA fb.length fc)).run Try.prog wr.drew = .ok (.string (strOf fb)) wr.drew := conv_bytes fA fc fb wr.drew hfin.at_
            have ky : (convert 28 9 (.slice pA' pb'.length pc')).run Try.prog wr.drew = .ok (.string (strOf pb')) wr.drew := conv_bytes pA' pc' pb' wr.drew hok.at_
            have hstr : ((strOf fb).toList == (strOf pb').toList) = false := strList_ne (fun h => h5 (strOf_inj hfin.bytes hok.bytes h))
            generalize strOf fb = str at kx hstr
            generalize strOf pb' = str2 at ky hstr
            have hml : (m : Int) < (fs.length : Int) := by omega
            have hmpl : (m : Int) < (ps.length : Int) := by omega
            clear hg hok hfin hmf hmem hc0 h5 h4
            go_wp2_with fail
            refine wp_region_still_tail 19 (by kernel_rfl) (by kernel_rfl) ?_
            simp only [List.take_succ_cons, List.take_zero, List.drop_succ_cons, List.drop_zero]
            change wpStill _ _ wr.drew _ _ _
            iterate 19 still_step
            refine wpStill_nil ?_
            change wpList _ _ _ _ _ wr.drew
            have HBD : Hid (Below w.heap.size w wr.drew) := HBW.out.drew
            generalize wr.drew = wd at HBD ⊢
            go_wp2_with fail
            refine (falive_any _).mono ?_
            rintro e4 w4 ⟨rfl, hb4⟩
            have HB4 : Hid (Below w.heap.size w w4) := HBD.out.trans (hb4.mono HBD.out.size)
            clear hb4
            go_wp2_with fail
            go_ret
            exact ⟨rfl, HB4.out⟩
theorem turn_early (w : World) (A : Option Addr) (cap : Nat) (ps : List Part) (hA : PartsAt w A ps) (hps : ∀ p ∈ ps, PartOk w p) (hsz : sizeL (ps.map Part.bs) ≤ 30000000) (hb : ∀ p ∈ ps, p.bs.length ≤ 262144) (L : List Nat) (hL : Hid (layB 1 (ps.map Part.bs) = L)) (a : Int) (q : Nat) (h : (L.length = 0) ∨ (L.length ≠ 0 ∧ q = 0)) :
    Calls Try.prog 13 #[.slice A ps.length cap, .int .i64 a, .int .u8 (q : Nat)] w (LawPost w) := by
  have Y := Lib.hid (lay_ok A cap ps 1 w hA hps hsz (by omega) (by omega) hb)
  rw [hL.out] at Y
  clear hA hps hsz hb
  rcases h with h | ⟨h, h'⟩
  · have h1 : ((L.length : Int) == 0) = true := beq_iff_eq.2 (by omega)
    clear h
    go_enter Try.func13, Try.ntmps13
    go_wp2_with fail
    refine Y.out.mono ?_
    rintro e w1 ⟨B, k, rfl, hb1, ho1, hi1⟩
    have HB1 := Lib.hid hb1
    clear hb1 ho1 hi1
    go_wp2_with fail
    refine (falive_any _).mono ?_
    rintro e w2 ⟨rfl, hb2⟩
    have HB2 := Lib.hid (HB1.out.trans (hb2.mono HB1.out.size))
    clear hb2
    go_wp2_with fail
    go_ret
    exact ⟨rfl, HB2.out⟩
  · have h1 : ((L.length : Int) == 0) = false := beq_eq_false_iff_ne.2 (by omega)
    subst h'
    clear h
    go_enter Try.func13, Try.ntmps13
    go_wp2_with fail
    refine Y.out.mono ?_
    rintro e w1 ⟨B, k, rfl, hb1, ho1, hi1⟩
    have HB1 := Lib.hid hb1
    clear hb1 ho1 hi1
    go_wp2_with fail
    refine (falive_any _).mono ?_
    rintro e w2 ⟨rfl, hb2⟩
    have HB2 := Lib.hid (HB1.out.trans (hb2.mono HB1.out.size))
    clear hb2
    go_wp2_with fail
    go_ret
    exact ⟨rfl, HB2.out⟩
theorem law_FrameTurned (w : World) (A : Option Addr) (cap : Nat) (ps : List Part) (g : PartsAt w A ps ∧ (∀ p ∈ ps, PartOk w p) ∧ ps.length ≤ cap ∧ cap ≤ maxLen) (z : partsBulk ps ≤ 1048576) (a : Int) (ha : -9223372036854775808 ≤ a ∧ a ≤ 9223372036854775807) (q : Nat) (hq : q < 256) :
    Calls Try.prog 13 #[.slice A ps.length cap, .int .i64 a, .int .u8 (q : Nat)] w (LawPost w) := by
  obtain ⟨hA, hps, _, _⟩ := g
  have hsz : sizeL (ps.map Part.bs) ≤ 30000000 := by have := size_bulk ps; omega
  by_cases hb : ∀ p ∈ ps, p.bs.length ≤ 262144
  · obtain ⟨L, hL⟩ : ∃ L, layB 1 (ps.map Part.bs) = L := ⟨_, rfl⟩
    have hll : L.length ≤ 30000000 := by rw [← hL, layB_length]; exact hsz
    by_cases h0 : L.length = 0
    · exact turn_early w A cap ps hA hps hsz hb L hL a q (Or.inl h0)
    · by_cases hq0 : q = 0
      · exact turn_early w A cap ps hA hps hsz hb L hL a q (Or.inr ⟨h0, hq0⟩)
      · have h1 := Int.lt_tmod_of_pos a (show (0 : Int) < (L.length : Int) by omega)
        have h2 := Int.tmod_lt_of_pos a (show (0 : Int) < (L.length : Int) by omega)
        have h3 := Int.emod_nonneg (a.tmod (L.length : Int) + (L.length : Int)) (show (L.length : Int) ≠ 0 by omega)
        have h4 := Int.emod_lt_of_pos (a.tmod (L.length : Int) + (L.length : Int)) (show (0 : Int) < (L.length : Int) by omega)
        exact turn_core w A cap ps hA hps z hb L hL a _ _ q hq0 hq (by omega) hll rfl (by omega) (by omega) (Int.toNat_of_nonneg h3).symm (by omega)
  · have Y := Lib.hid (lay_bad A cap ps 1 w hA hps hsz (by omega) (by omega) hb)
    clear hA hps hb hsz z
    go_enter Try.func13, Try.ntmps13
    go_wp2_with fail
    refine Y.out.mono ?_
    rintro e w1 ⟨rfl, hb1⟩
    have HB1 := Lib.hid hb1
    clear hb1
    go_wp2_with fail
    refine (falive_any _).mono ?_
    rintro e w2 ⟨rfl, hb2⟩
    have HB2 := Lib.hid (HB1.out.trans (hb2.mono HB1.out.size))
    clear hb2
    go_wp2_with fail
    go_ret
    exact ⟨rfl, HB2.out⟩
end Go.Proofs.Ythmmhbeafbdglaa
