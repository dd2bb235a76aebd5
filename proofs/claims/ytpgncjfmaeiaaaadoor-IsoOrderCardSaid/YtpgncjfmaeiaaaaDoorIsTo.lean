/- Two nodes are paired, and all that comes of it: the walk. Conditions: right graphs, texts and rows no longer than 10^6. -/
import Derived.Test.YtpgncjfmaeiaaaaDoorIsMaps
set_option linter.unusedVariables false
namespace Go.Proofs.YtpgncjfmaeiaaaaDoor.Is
open Go.RowKit
theorem toF_met {ch : Int × Int → Bool × PrL} {N : Nat} {met : PrL} {x : Int × Int} (h : x ∈ met) : toF ch (N + 1) met x = (true, met) := by unfold toF; rw [if_pos h]
theorem toF_new {ch : Int × Int → Bool × PrL} {N : Nat} {met : PrL} {x : Int × Int} (h : x ∉ met) : toF ch (N + 1) met x = ((goF (toF ch N) (ch x).2 (x :: met)).1 && (ch x).1, (goF (toF ch N) (ch x).2 (x :: met)).2) := by unfold toF; rw [if_neg h]
theorem toList_data (s : ByteArray) : s.toList = s.data.toList := by simp [ByteArray.toList_eq]
theorem toList_inj {s t : ByteArray} (h : s.toList = t.toList) : s = t := by
  rw [toList_data, toList_data] at h
  obtain ⟨⟨a⟩⟩ := s
  obtain ⟨⟨b⟩⟩ := t
  simp only at h
  rw [h]
/-- the two nodes in boxes of their own -/
structure BoxF (w V : World) (qx qy : Nat) (X Y : Nd) : Prop where
  below : Below w.heap.size w V
  x0 : V.cell? ⟨qx, 0, none⟩ = some (.int .i64 X.kind)
  x1 : V.cell? ⟨qx, 1, none⟩ = some (.string X.txt)
  x2 : V.cell? ⟨qx, 2, none⟩ = some (.slice X.ka X.kids.length X.kc)
  y0 : V.cell? ⟨qy, 0, none⟩ = some (.int .i64 Y.kind)
  y1 : V.cell? ⟨qy, 1, none⟩ = some (.string Y.txt)
  y2 : V.cell? ⟨qy, 2, none⟩ = some (.slice Y.ka Y.kids.length Y.kc)
  lx : w.heap.size ≤ qx
  ly : w.heap.size ≤ qy
abbrev ndObj (X : Nd) : Obj := .cells #[.int .i64 X.kind, .string X.txt, .slice X.ka X.kids.length X.kc] 38
theorem box_one (w : World) (X Y : Nd) : BoxF w ((w.alloc (ndObj X)).alloc (ndObj Y)).drew w.heap.size (w.heap.size + 1) X Y := by
  have hs1 : (w.alloc (ndObj X)).heap.size = w.heap.size + 1 := by simp
  have hx : ((w.alloc (ndObj X)).alloc (ndObj Y)).drew.heap[w.heap.size]? = some (ndObj X) := ((ext_world (w.alloc (ndObj X)) _).block w.heap.size (by simp)).trans (heap_new w _ _)
  have hy : ((w.alloc (ndObj X)).alloc (ndObj Y)).drew.heap[w.heap.size + 1]? = some (ndObj Y) := by
    have h9 := heap_new (w.alloc (ndObj X)) #[.int .i64 Y.kind, .string Y.txt, .slice Y.ka Y.kids.length Y.kc] 38
    rw [hs1] at h9
    exact h9
  exact ⟨dr ((ext_world w _).alloc (by simp) _) 1, bcell hx 0, bcell hx 1, bcell hx 2, bcell hy 0, bcell hy 1, bcell hy 2, Nat.le_refl _, Nat.le_succ _⟩
theorem BoxF.swap {w V : World} {qx qy : Nat} {X Y : Nd} (h : BoxF w V qx qy X Y) : BoxF w V qy qx Y X := ⟨h.below, h.y0, h.y1, h.y2, h.x0, h.x1, h.x2, h.ly, h.lx⟩
set_option maxRecDepth 100000 in
set_option maxHeartbeats 6400000 in
theorem to_step (w0 : World) (h : Sh) (a b : Gv) (ord : Bool) (N : Nat) (T : Two w0 h a b) (IH : ToSpec w0 h a b ord N) : ToSpec w0 h a b ord (N + 1) := by
  intro W met x hW P hok hx hmu
  have hlen : met.length ≤ 20000000 := by
    have h1 := hok.len
    have h2 := (right_len T.ra).2.1
    have h3 := (right_len T.rb).2.1
    have h4 : a.ns.length * b.ns.length ≤ 4096 * 4096 := Nat.mul_le_mul h2 h3
    omega
  have hx0 := hx
  obtain ⟨x1, x2, x3, x4⟩ := hx
  have hwa : wf64 x.1 := by have := (right_len T.ra).2.1; unfold wf64; omega
  have hwb : wf64 x.2 := by have := (right_len T.rb).2.1; unfold wf64; omega
  have P1 : Hid (PIn (W.alloc (.cells #[.int .i64 x.1, .int .i64 x.2] 55)) h a b ord met) := P.below (ext_world W _)
  have ONE := Lib.hid (one_any h a b ord met x (W.alloc (.cells #[.int .i64 x.1, .int .i64 x.2] 55)) P1.out hwa hwb hlen)
  have q0 := bcell (heap_new W #[.int .i64 x.1, .int .i64 x.2] 55) 0
  have q1 := bcell (heap_new W #[.int .i64 x.1, .int .i64 x.2] 55) 1
  have NSQ : Hid (¬ h.S W.heap.size) := P.notS (Nat.le_refl _)
  have HK1 : Hid (Keep h.S W (W.alloc (.cells #[.int .i64 x.1, .int .i64 x.2] 55))) := Keep.of_below (ext_world W _)
  have HB1 : Hid (Below w0.heap.size w0 (W.alloc (.cells #[.int .i64 x.1, .int .i64 x.2] 55))) := hW.trans ((ext_world W _).mono hW.size)
  unfold pairV at ONE ⊢
  obtain ⟨xa, xb⟩ := x
  simp only at x1 x2 x3 x4 ONE q0 q1 hwa hwb HK1 HB1 P1 ⊢
  have HT := Lib.hid T
  have HI := Lib.hid IH
  have HOK := Lib.hid hok
  have HX0 := Lib.hid hx0
  have HMU := Lib.hid hmu
  have HSZ : Hid (w0.heap.size ≤ W.heap.size) := hW.size
  have HBW := Lib.hid hW
  have HP0 := Lib.hid P
  by_cases hm : (xa, xb) ∈ met
  · rw [toF_met hm]
    have ON1 : Hid (Calls Tryd.prog 41 #[.pointer (some ⟨h.p, 0, none⟩), .agg #[.int .i64 xa, .int .i64 xb]] (W.alloc (.cells #[.int .i64 xa, .int .i64 xb] 55)) (fun e w' => e = .returned (.bool false) ∧ PIn w' h a b ord met ∧ Keep h.S (W.alloc (.cells #[.int .i64 xa, .int .i64 xb] 55)) w')) := by
      have h9 := ONE.out
      unfold OnePost at h9
      rw [if_pos hm, decide_eq_true hm] at h9
      exact h9
    clear P T IH hok hx0 hmu ONE hW hm
    go_enter Tryd.func30, Tryd.ntmps30
    go_wp2_with (go_at_call 41; (with_reducible refine ON1.out.mono ?_); rintro e w2 ⟨rfl, hp2, hk2⟩)
    go_ret
    exact ⟨rfl, hp2, HK1.out.trans hk2⟩
  · rw [toF_new hm]
    have ON1 : Hid (Calls Tryd.prog 41 #[.pointer (some ⟨h.p, 0, none⟩), .agg #[.int .i64 xa, .int .i64 xb]] (W.alloc (.cells #[.int .i64 xa, .int .i64 xb] 55)) (fun e w' => e = .returned (.bool true) ∧ PIn w' h a b ord ((xa, xb) :: met) ∧ Keep h.S (W.alloc (.cells #[.int .i64 xa, .int .i64 xb] 55)) w')) := by
      have h9 := ONE.out
      unfold OnePost at h9
      rw [if_neg hm, decide_eq_false hm] at h9
      exact h9
    have OK1 : Hid (OkM a.ns.length b.ns.length ((xa, xb) :: met) ∧ mu a.ns.length b.ns.length ((xa, xb) :: met) < N) := ⟨hok.cons hx0 hm, by have := mu_lt hx0 hm; omega⟩
    obtain ⟨R, hR⟩ : ∃ R, R = ((goF (toF (chs a b ord) N) (chs a b ord (xa, xb)).2 ((xa, xb) :: met)).1 && (chs a b ord (xa, xb)).1, (goF (toF (chs a b ord) N) (chs a b ord (xa, xb)).2 ((xa, xb) :: met)).2) := ⟨_, rfl⟩
    rw [← hR]
    have HR := Lib.hid hR
    obtain ⟨xn, rfl⟩ : ∃ xn : Nat, xa = (xn : Int) := ⟨xa.toNat, by omega⟩
    obtain ⟨yn, rfl⟩ : ∃ yn : Nat, xb = (yn : Int) := ⟨xb.toNat, by omega⟩
    obtain ⟨AL, hAL⟩ : ∃ AL, AL = a.ns.length := ⟨_, rfl⟩
    obtain ⟨BL, hBL⟩ : ∃ BL, BL = b.ns.length := ⟨_, rfl⟩
    have hxL : (xn : Int) < (AL : Int) := by omega
    have hyL : (yn : Int) < (BL : Int) := by omega
    have HAL := Lib.hid hAL
    have HBL := Lib.hid hBL
    clear P T IH hok hx0 hmu ONE hW hm hR hAL hBL
    go_enter Tryd.func30, Tryd.ntmps30
    go_wp2_with (go_at_call 41; (with_reducible refine ON1.out.mono ?_); rintro e w2 ⟨rfl, hp2, hk2⟩)
    have HP2 := Lib.hid hp2
    have HK2 : Hid (Keep h.S W w2) := HK1.out.trans hk2
    have HB2 : Hid (Below w0.heap.size w0 w2) := hk2.below HB1.out HT.out.hS HB1.out.size
    have q0' : w2.cell? ⟨W.heap.size, 0, none⟩ = some (.int .i64 (xn : Int)) := hk2.cell q0 NSQ.out
    have q1' : w2.cell? ⟨W.heap.size, 1, none⟩ = some (.int .i64 (yn : Int)) := hk2.cell q1 NSQ.out
    have hxI : xn < a.ns.length := by have := HAL.out; omega
    have hyI : yn < b.ns.length := by have := HBL.out; omega
    obtain ⟨bg, og, hAg, hbg, g0, g1, g2⟩ := (HT.out.ga.below HB2.out).get xn hxI
    obtain ⟨bh, oh, hAh, hbh, h0, h1, h2⟩ := (HT.out.gb.below HB2.out).get yn hyI
    have c0 : w2.cell? ⟨h.p, 0, none⟩ = some (.slice a.A a.ns.length a.c) := bcell hp2.box 0
    have c2 : w2.cell? ⟨h.p, 2, none⟩ = some (.slice b.A b.ns.length b.c) := bcell hp2.box 2
    have c4 : w2.cell? ⟨h.p, 4, none⟩ = some (.bool ord) := bcell hp2.box 4
    have XM := Lib.hid (getD_memD hxI)
    have YM := Lib.hid (getD_memD hyI)
    have HXN : Hid (ndOf a (xn : Int) = a.ns.getD xn nd0) := rfl
    have HYN : Hid (ndOf b (yn : Int) = b.ns.getD yn nd0) := rfl
    generalize a.ns.getD xn nd0 = X at g0 g1 g2 XM HXN
    generalize b.ns.getD yn nd0 = Y at h0 h1 h2 YM HYN
    rw [hAg, ← HAL.out] at c0
    rw [hAh, ← HBL.out] at c2
    have w2p := blt hp2.box
    clear hp2 hk2 q0 q1 ON1 HK1 HB1 P1
    go_region_held3 (fun w' => w'.cell? ⟨h.p, 0, none⟩ = some (.slice (some ⟨bg, og, none⟩) AL a.c) ∧ w'.cell? ⟨h.p, 2, none⟩ = some (.slice (some ⟨bh, oh, none⟩) BL b.c) ∧ w'.cell? ⟨W.heap.size, 0, none⟩ = some (.int .i64 (xn : Int)) ∧ w'.cell? ⟨W.heap.size, 1, none⟩ = some (.int .i64 (yn : Int)) ∧
        w'.cell? ⟨bg, og + xn * 3, none⟩ = some (.int .i64 X.kind) ∧ w'.cell? ⟨bg, og + xn * 3 + 1, none⟩ = some (.string X.txt) ∧ w'.cell? ⟨bg, og + xn * 3 + 2, none⟩ = some (.slice X.ka X.kids.length X.kc) ∧
        w'.cell? ⟨bh, oh + yn * 3, none⟩ = some (.int .i64 Y.kind) ∧ w'.cell? ⟨bh, oh + yn * 3 + 1, none⟩ = some (.string Y.txt) ∧ w'.cell? ⟨bh, oh + yn * 3 + 2, none⟩ = some (.slice Y.ka Y.kids.length Y.kc))
      (go_keep)
      (fail)
    all_goals
      first
        | (have BF := Lib.hid (box_one w2 X Y)
           unfold ndObj at BF
           generalize ((w2.alloc (.cells #[.int .i64 X.kind, .string X.txt, .slice X.ka X.kids.length X.kc] 38)).alloc (.cells #[.int .i64 Y.kind, .string Y.txt, .slice Y.ka Y.kids.length Y.kc] 38)).drew = V at BF ⊢
           generalize w2.heap.size + 1 = qy at BF ⊢
           generalize hqx : w2.heap.size = qx at BF ⊢
           change Exit.then _ _ _ _ V)
        | (have BF := Lib.hid (box_one w2 Y X).swap
           unfold ndObj at BF
           generalize ((w2.alloc (.cells #[.int .i64 Y.kind, .string Y.txt, .slice Y.ka Y.kids.length Y.kc] 38)).alloc (.cells #[.int .i64 X.kind, .string X.txt, .slice X.ka X.kids.length X.kc] 38)).drew = V at BF ⊢
           generalize w2.heap.size + 1 = qx at BF ⊢
           generalize hqy : w2.heap.size = qy at BF ⊢
           change Exit.then _ _ _ _ V)
    all_goals
      have HRB : Hid (¬ (X.kind = Y.kind ∧ X.txt = Y.txt ∧ X.kids.length = Y.kids.length) → R = (false, ((xn : Int), (yn : Int)) :: met)) := fun hn => by
        have h9 : chs a b ord ((xn : Int), (yn : Int)) = (false, []) := by
          show chN a b ord _ = _
          unfold chN
          simp only
          rw [HXN.out, HYN.out, if_neg hn]
        rw [HR.out, h9]
        rfl
      have HRM : Hid (X.kind = Y.kind ∧ X.txt = Y.txt ∧ X.kids.length = Y.kids.length → X.kind = 6 ∧ ord = false → R = ((goF (toF (chs a b ord) N) (mapsTo a.ns b.ns X.kids Y.kids (X.kids.length / 2)).2 (((xn : Int), (yn : Int)) :: met)).1 && (mapsTo a.ns b.ns X.kids Y.kids (X.kids.length / 2)).1, (goF (toF (chs a b ord) N) (mapsTo a.ns b.ns X.kids Y.kids (X.kids.length / 2)).2 (((xn : Int), (yn : Int)) :: met)).2)) := fun he h6 => by
        have h9 : chs a b ord ((xn : Int), (yn : Int)) = mapsTo a.ns b.ns X.kids Y.kids (X.kids.length / 2) := by
          show chN a b ord _ = _
          unfold chN
          simp only
          rw [HXN.out, HYN.out, if_pos he, if_pos h6]
        rw [HR.out, h9]
      have HRZ : Hid (X.kind = Y.kind ∧ X.txt = Y.txt ∧ X.kids.length = Y.kids.length → ¬ (X.kind = 6 ∧ ord = false) → R = goF (toF (chs a b ord) N) (X.kids.zip Y.kids) (((xn : Int), (yn : Int)) :: met)) := fun he h6 => by
        have h9 : chs a b ord ((xn : Int), (yn : Int)) = (true, X.kids.zip Y.kids) := by
          show chN a b ord _ = _
          unfold chN
          simp only
          rw [HXN.out, HYN.out, if_pos he, if_neg h6]
        rw [HR.out, h9, Bool.and_true]
      have v0 := BF.out.x0
      have v1 := BF.out.x1
      have v2 := BF.out.x2
      have u0 := BF.out.y0
      have u1 := BF.out.y1
      have u2 := BF.out.y2
      have PV : Hid (PIn V h a b ord (((xn : Int), (yn : Int)) :: met)) := HP2.out.below BF.out.below
      have KV : Hid (Keep h.S W V) := HK2.out.trans (Keep.of_below BF.out.below)
      have BV : Hid (Below w0.heap.size w0 V) := HB2.out.trans (BF.out.below.mono HB2.out.size)
      have NX : Hid (¬ h.S qx) := HP2.out.notS BF.out.lx
      have NY : Hid (¬ h.S qy) := HP2.out.notS BF.out.ly
      have d4 : V.cell? ⟨h.p, 4, none⟩ = some (.bool ord) := bcell PV.out.box 4
      clear c0 c2 c4 q0' q1' g0 g1 g2 h0 h1 h2 BF HR HP2 HK2 HB2 w2p hbg hbh hAg hAh
      by_cases hk : X.kind = Y.kind
      · have hkI : (X.kind != Y.kind) = false := by rw [bne_eq_false_iff_eq]; exact hk
        by_cases ht : X.txt = Y.txt
        · have htL : X.txt.toList = Y.txt.toList := by rw [ht]
          have htI : (X.txt.toList != Y.txt.toList) = false := by rw [bne_eq_false_iff_eq]; exact htL
          by_cases hl : X.kids.length = Y.kids.length
          · have hlI : ((X.kids.length : Int) != (Y.kids.length : Int)) = false := by rw [bne_eq_false_iff_eq]; omega
            have EQ : Hid (X.kind = Y.kind ∧ X.txt = Y.txt ∧ X.kids.length = Y.kids.length) := ⟨hk, ht, hl⟩
            by_cases hz0 : X.kind = 6 ∧ ord = false
            · have HRR := Lib.hid (HRM.out EQ.out hz0)
              have h6I : (X.kind == 6) = true := by rw [beq_iff_eq]; exact hz0.1
              have ho : ord = false := hz0.2
              subst ho
              have MP : Hid (Calls Tryd.prog 42 #[.pointer (some ⟨h.p, 0, none⟩), .agg #[.int .i64 X.kind, .string X.txt, .slice X.ka X.kids.length X.kc], .agg #[.int .i64 Y.kind, .string Y.txt, .slice Y.ka Y.kids.length Y.kc]] V (ToPost h a b false R V)) := by
                rw [HRR.out]
                exact maps_any w0 h a b false N HT.out HI.out X Y XM.out YM.out _ V BV.out PV.out OK1.out.1 OK1.out.2
              clear HRB HRM HRZ hk ht hl hz0 EQ
              go_wp2_with (go_at_call 42; (with_reducible refine MP.out.mono ?_); rintro e' w8 ⟨rfl, hp8, hk8⟩)
              go_ret
              exact ⟨rfl, hp8, KV.out.trans hk8⟩
            · have HRR := Lib.hid (HRZ.out EQ.out hz0)
              obtain ⟨KL, hKL⟩ : ∃ KL, KL = X.kids.length := ⟨_, rfl⟩
              have hklS : KL ≤ 1000000 := by rw [hKL]; exact (HT.out.sa X XM.out).2
              have HKX := Lib.hid hKL
              have HKY : Hid (KL = Y.kids.length) := hKL.trans hl
              rw [← hl, ← hKL] at u2
              rw [← hKL] at v2
              have hlI2 : ((KL : Int) != (KL : Int)) = false := by rw [bne_eq_false_iff_eq]
              clear HRB HRM HRZ hk ht hl hlI EQ hKL
              by_cases h6 : X.kind = 6
              · have h6I : (X.kind == 6) = true := by rw [beq_iff_eq]; exact h6
                have ho : ord = true := by
                  cases ord with
                  | false => exact absurd ⟨h6, rfl⟩ hz0
                  | true => rfl
                subst ho
                clear h6 hz0
                go_wp2_with fail
                go_loopw [68] (fun v wr => ∃ (i : Nat) (mi : PrL), i ≤ KL ∧ v = .int .i64 (i : Nat) ∧ Hid (PIn wr h a b true mi) ∧ Hid (Keep h.S W wr) ∧ Hid (Below w0.heap.size w0 wr) ∧ Hid (goF (toF (chs a b true) N) ((X.kids.zip Y.kids).take i) (((xn : Int), (yn : Int)) :: met) = (true, mi)) ∧ Hid (OkM a.ns.length b.ns.length mi ∧ mu a.ns.length b.ns.length mi < N) ∧ wr.cell? ⟨qx, 2, none⟩ = some (.slice X.ka KL X.kc) ∧ wr.cell? ⟨qy, 2, none⟩ = some (.slice Y.ka KL Y.kc)) (fun v _ => KL - (intOf v).toNat)
                case atStart => exact ⟨0, _, Nat.zero_le _, rfl, PV.out, KV.out, BV.out, rfl, OK1.out, v2, u2⟩
                case round =>
                  obtain ⟨i, mi, hi, rfl, hp, hkk, hb, hst, hou, c5, c6⟩ := hrel
                  by_cases hlt : i < KL
                  · have hltI : (i : Int) < (KL : Int) := by omega
                    have hltX : i < X.kids.length := by have := HKX.out; omega
                    have hltY : i < Y.kids.length := by have := HKY.out; omega
                    obtain ⟨bx, ox, hkx, hbx, hcx⟩ := ((HT.out.ga.below hb.out).kids X XM.out).get i hltX
                    obtain ⟨bY, oY, hky, hbY, hcy⟩ := ((HT.out.gb.below hb.out).kids Y YM.out).get i hltY
                    have rX := right_kids HT.out.ra XM.out _ (getD_mem hltX)
                    have rY := right_kids HT.out.rb YM.out _ (getD_mem hltY)
                    have hz : Hid ((X.kids.zip Y.kids).take (i + 1) = (X.kids.zip Y.kids).take i ++ [(X.kids.getD i 0, Y.kids.getD i 0)]) := by
                      show _ = _
                      rw [List.take_succ_eq_append_getElem (by rw [List.length_zip]; omega), List.getElem_zip, List.getD_eq_getElem?_getD, List.getD_eq_getElem?_getD, List.getElem?_eq_getElem hltX, List.getElem?_eq_getElem hltY]
                      rfl
                    have hpre : Hid ((X.kids.zip Y.kids).take (i + 1) <+: X.kids.zip Y.kids) := List.take_prefix _ _
                    generalize X.kids.getD i 0 = xv at hcx rX hz
                    generalize Y.kids.getD i 0 = yv at hcy rY hz
                    have hin : Hid (InU a.ns.length b.ns.length (xv, yv)) := ⟨rX.1, rX.2, rY.1, rY.2⟩
                    have TT := Lib.hid (HI.out wr.drew mi (xv, yv) hb.out.drew (hp.out.below (Below.refl _ _).drew) hou.out.1 hin.out hou.out.2)
                    have G1 : Hid (goF (toF (chs a b true) N) ((X.kids.zip Y.kids).take (i + 1)) (((xn : Int), (yn : Int)) :: met) = toF (chs a b true) N mi (xv, yv)) := by
                      show _ = _
                      rw [hz.out]
                      exact goF_snoc hst.out
                    have O1 : Hid (OkM a.ns.length b.ns.length (toF (chs a b true) N mi (xv, yv)).2 ∧ mu a.ns.length b.ns.length (toF (chs a b true) N mi (xv, yv)).2 < N) := ⟨toF_ok (chN_in HT.out.ra HT.out.rb) N mi _ hou.out.1 hin.out, Nat.lt_of_le_of_lt (mu_le (toF_sub _ N mi _)) hou.out.2⟩
                    generalize toF (chs a b true) N mi (xv, yv) = r1 at TT G1 O1
                    obtain ⟨o1, m1⟩ := r1
                    have HKXA := Lib.hid hkx
                    have HKYA := Lib.hid hky
                    rw [hkx] at c5
                    rw [hky] at c6
                    clear hkx hky rX rY
                    unfold pairV at TT
                    go_wp2_with fail
                    refine wp_region_still_tail 12 (by kernel_rfl) (by kernel_rfl) ?_
                    simp only [List.take_succ_cons, List.take_zero, List.drop_succ_cons, List.drop_zero]
                    change wpStill _ _ wr.drew _ _ _
                    iterate 12 still_step
                    refine wpStill_nil ?_
                    change wpList _ _ _ _ _ wr.drew
                    cases o1 with
                    | false =>
                      have T2b : Hid (Calls Tryd.prog 30 #[.pointer (some ⟨h.p, 0, none⟩), .agg #[.int .i64 xv, .int .i64 yv]] wr.drew (fun e w' => e = .returned (.bool false) ∧ PIn w' h a b true m1 ∧ Keep h.S wr.drew w')) := TT.out
                      have HF : Hid (R = (false, m1)) := by
                        show _ = _
                        rw [HRR.out]
                        exact goF_fail G1.out hpre.out
                      clear TT
                      go_wp2_with (go_at_call 30; (with_reducible refine T2b.out.mono ?_); rintro e' w8 ⟨rfl, hp8, hk8⟩)
                      go_ret
                      unfold ToPost
                      rw [HF.out]
                      exact ⟨rfl, hp8, (hkk.out.trans (Keep.of_below (Below.refl _ _).drew)).trans hk8⟩
                    | true =>
                      have T2b : Hid (Calls Tryd.prog 30 #[.pointer (some ⟨h.p, 0, none⟩), .agg #[.int .i64 xv, .int .i64 yv]] wr.drew (fun e w' => e = .returned (.bool true) ∧ PIn w' h a b true m1 ∧ Keep h.S wr.drew w')) := TT.out
                      clear TT
                      go_wp2_with (go_at_call 30; (with_reducible refine T2b.out.mono ?_); rintro e' w8 ⟨rfl, hp8, hk8⟩)
                      go_roundw
                      case rel => exact ⟨i + 1, m1, by omega, by go_num, hp8, (hkk.out.trans (Keep.of_below (Below.refl _ _).drew)).trans hk8, hk8.below hb.out.drew HT.out.hS hb.out.drew.size, G1.out, O1.out, by rw [HKXA.out]; exact hk8.cell (show wr.drew.cell? _ = _ from c5) NX.out, by rw [HKYA.out]; exact hk8.cell (show wr.drew.cell? _ = _ from c6) NY.out⟩
                      case measure => simp [intOf]; omega
                  · obtain rfl : i = KL := by omega
                    have HF : Hid (R = (true, mi)) := by
                      have h9 := hst.out
                      rw [List.take_of_length_le (by rw [List.length_zip]; have := HKX.out; have := HKY.out; omega)] at h9
                      show _ = _
                      rw [HRR.out, h9]
                    go_wp2_with fail
                    go_ret
                    unfold ToPost
                    rw [HF.out]
                    exact ⟨rfl, hp.out, hkk.out⟩
              · have h6I : (X.kind == 6) = false := by rw [beq_eq_false_iff_ne]; exact h6
                clear h6 hz0
                go_wp2_with fail
                go_loopw [68] (fun v wr => ∃ (i : Nat) (mi : PrL), i ≤ KL ∧ v = .int .i64 (i : Nat) ∧ Hid (PIn wr h a b ord mi) ∧ Hid (Keep h.S W wr) ∧ Hid (Below w0.heap.size w0 wr) ∧ Hid (goF (toF (chs a b ord) N) ((X.kids.zip Y.kids).take i) (((xn : Int), (yn : Int)) :: met) = (true, mi)) ∧ Hid (OkM a.ns.length b.ns.length mi ∧ mu a.ns.length b.ns.length mi < N) ∧ wr.cell? ⟨qx, 2, none⟩ = some (.slice X.ka KL X.kc) ∧ wr.cell? ⟨qy, 2, none⟩ = some (.slice Y.ka KL Y.kc)) (fun v _ => KL - (intOf v).toNat)
                case atStart => exact ⟨0, _, Nat.zero_le _, rfl, PV.out, KV.out, BV.out, rfl, OK1.out, v2, u2⟩
                case round =>
                  obtain ⟨i, mi, hi, rfl, hp, hkk, hb, hst, hou, c5, c6⟩ := hrel
                  by_cases hlt : i < KL
                  · have hltI : (i : Int) < (KL : Int) := by omega
                    have hltX : i < X.kids.length := by have := HKX.out; omega
                    have hltY : i < Y.kids.length := by have := HKY.out; omega
                    obtain ⟨bx, ox, hkx, hbx, hcx⟩ := ((HT.out.ga.below hb.out).kids X XM.out).get i hltX
                    obtain ⟨bY, oY, hky, hbY, hcy⟩ := ((HT.out.gb.below hb.out).kids Y YM.out).get i hltY
                    have rX := right_kids HT.out.ra XM.out _ (getD_mem hltX)
                    have rY := right_kids HT.out.rb YM.out _ (getD_mem hltY)
                    have hz : Hid ((X.kids.zip Y.kids).take (i + 1) = (X.kids.zip Y.kids).take i ++ [(X.kids.getD i 0, Y.kids.getD i 0)]) := by
                      show _ = _
                      rw [List.take_succ_eq_append_getElem (by rw [List.length_zip]; omega), List.getElem_zip, List.getD_eq_getElem?_getD, List.getD_eq_getElem?_getD, List.getElem?_eq_getElem hltX, List.getElem?_eq_getElem hltY]
                      rfl
                    have hpre : Hid ((X.kids.zip Y.kids).take (i + 1) <+: X.kids.zip Y.kids) := List.take_prefix _ _
                    generalize X.kids.getD i 0 = xv at hcx rX hz
                    generalize Y.kids.getD i 0 = yv at hcy rY hz
                    have hin : Hid (InU a.ns.length b.ns.length (xv, yv)) := ⟨rX.1, rX.2, rY.1, rY.2⟩
                    have TT := Lib.hid (HI.out wr.drew mi (xv, yv) hb.out.drew (hp.out.below (Below.refl _ _).drew) hou.out.1 hin.out hou.out.2)
                    have G1 : Hid (goF (toF (chs a b ord) N) ((X.kids.zip Y.kids).take (i + 1)) (((xn : Int), (yn : Int)) :: met) = toF (chs a b ord) N mi (xv, yv)) := by
                      show _ = _
                      rw [hz.out]
                      exact goF_snoc hst.out
                    have O1 : Hid (OkM a.ns.length b.ns.length (toF (chs a b ord) N mi (xv, yv)).2 ∧ mu a.ns.length b.ns.length (toF (chs a b ord) N mi (xv, yv)).2 < N) := ⟨toF_ok (chN_in HT.out.ra HT.out.rb) N mi _ hou.out.1 hin.out, Nat.lt_of_le_of_lt (mu_le (toF_sub _ N mi _)) hou.out.2⟩
                    generalize toF (chs a b ord) N mi (xv, yv) = r1 at TT G1 O1
                    obtain ⟨o1, m1⟩ := r1
                    have HKXA := Lib.hid hkx
                    have HKYA := Lib.hid hky
                    rw [hkx] at c5
                    rw [hky] at c6
                    clear hkx hky rX rY
                    unfold pairV at TT
                    go_wp2_with fail
                    refine wp_region_still_tail 12 (by kernel_rfl) (by kernel_rfl) ?_
                    simp only [List.take_succ_cons, List.take_zero, List.drop_succ_cons, List.drop_zero]
                    change wpStill _ _ wr.drew _ _ _
                    iterate 12 still_step
                    refine wpStill_nil ?_
                    change wpList _ _ _ _ _ wr.drew
                    cases o1 with
                    | false =>
                      have T2b : Hid (Calls Tryd.prog 30 #[.pointer (some ⟨h.p, 0, none⟩), .agg #[.int .i64 xv, .int .i64 yv]] wr.drew (fun e w' => e = .returned (.bool false) ∧ PIn w' h a b ord m1 ∧ Keep h.S wr.drew w')) := TT.out
                      have HF : Hid (R = (false, m1)) := by
                        show _ = _
                        rw [HRR.out]
                        exact goF_fail G1.out hpre.out
                      clear TT
                      go_wp2_with (go_at_call 30; (with_reducible refine T2b.out.mono ?_); rintro e' w8 ⟨rfl, hp8, hk8⟩)
                      go_ret
                      unfold ToPost
                      rw [HF.out]
                      exact ⟨rfl, hp8, (hkk.out.trans (Keep.of_below (Below.refl _ _).drew)).trans hk8⟩
                    | true =>
                      have T2b : Hid (Calls Tryd.prog 30 #[.pointer (some ⟨h.p, 0, none⟩), .agg #[.int .i64 xv, .int .i64 yv]] wr.drew (fun e w' => e = .returned (.bool true) ∧ PIn w' h a b ord m1 ∧ Keep h.S wr.drew w')) := TT.out
                      clear TT
                      go_wp2_with (go_at_call 30; (with_reducible refine T2b.out.mono ?_); rintro e' w8 ⟨rfl, hp8, hk8⟩)
                      go_roundw
                      case rel => exact ⟨i + 1, m1, by omega, by go_num, hp8, (hkk.out.trans (Keep.of_below (Below.refl _ _).drew)).trans hk8, hk8.below hb.out.drew HT.out.hS hb.out.drew.size, G1.out, O1.out, by rw [HKXA.out]; exact hk8.cell (show wr.drew.cell? _ = _ from c5) NX.out, by rw [HKYA.out]; exact hk8.cell (show wr.drew.cell? _ = _ from c6) NY.out⟩
                      case measure => simp [intOf]; omega
                  · obtain rfl : i = KL := by omega
                    have HF : Hid (R = (true, mi)) := by
                      have h9 := hst.out
                      rw [List.take_of_length_le (by rw [List.length_zip]; have := HKX.out; have := HKY.out; omega)] at h9
                      show _ = _
                      rw [HRR.out, h9]
                    go_wp2_with fail
                    go_ret
                    unfold ToPost
                    rw [HF.out]
                    exact ⟨rfl, hp.out, hkk.out⟩
          · have hlI : ((X.kids.length : Int) != (Y.kids.length : Int)) = true := by rw [bne_iff_ne]; omega
            have HRR := Lib.hid (HRB.out fun e => hl e.2.2)
            clear HRB HRM HRZ hk ht
            go_wp2_with fail
            go_ret
            unfold ToPost
            rw [HRR.out]
            exact ⟨rfl, PV.out, KV.out⟩
        · have htL : ¬ (X.txt.toList = Y.txt.toList) := fun e => ht (toList_inj e)
          have htI : (X.txt.toList != Y.txt.toList) = true := by rw [bne_iff_ne]; exact htL
          have HRR := Lib.hid (HRB.out fun e => ht e.2.1)
          clear HRB HRM HRZ hk ht
          go_wp2_with fail
          go_ret
          unfold ToPost
          rw [HRR.out]
          exact ⟨rfl, PV.out, KV.out⟩
      · have hkI : (X.kind != Y.kind) = true := by rw [bne_iff_ne]; exact hk
        have HRR := Lib.hid (HRB.out fun e => hk e.1)
        go_wp2_with fail
        go_ret
        unfold ToPost
        rw [HRR.out]
        exact ⟨rfl, PV.out, KV.out⟩
end Go.Proofs.YtpgncjfmaeiaaaaDoor.Is
