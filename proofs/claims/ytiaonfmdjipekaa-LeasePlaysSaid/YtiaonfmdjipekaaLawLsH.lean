/- Law: LeasePlays. Conditions: none. -/
import Derived.Test.YtiaonfmdjipekaaLsPlay
set_option linter.unusedVariables false
namespace Go.Proofs.Ytiaonfmdjipekaa.Ls
open Go.RowKit Go.Maps
theorem doesL_len {L : List Pr} (hl : L.length ≤ 1024) (a : AV) : (doesL L a).length ≤ 2000000 := by
  unfold doesL
  split
  · have h1 := (List.takeWhile_sublist (fun b : Pr => decide (b.2 ≤ a.til)) (l := L)).length_le
    unfold dueL ids
    rw [List.length_map]
    omega
  · exact Nat.zero_le _
structure PRun (w : World) (q r : Nat) (acts : List AV) (k : Nat) (wr : World) : Prop where
  play : PlayS (fun z => z < w.heap.size) q r (runL acts k) k wr
  bel : Below w.heap.size w wr
theorem keep_cell {X : Nat → Prop} {a b : World} (h : Keep X a b) {g : Nat} {cs : Array Value} {t : TypeId} {fr : Nat × Nat} (hX : X g) (hg : a.heap[g]? = some (.cells cs t fr)) : b.heap[g]? = some (.cells cs t fr) := (h.block g (blt hg) fun e => e hX).trans hg
set_option maxRecDepth 100000 in
set_option maxHeartbeats 6400000 in
theorem law_LeasePlays (w : World) (x : ActsArg) (g : ActsIn w x.A x.cap x.l) :
    Calls Try.prog 5 #[.slice x.A x.l.length x.cap] w (LawPost w) := by
  obtain ⟨A, cap, l⟩ := x
  simp only at g ⊢
  have AL := Lib.hid (fun V => alive_any V)
  have NW := Lib.hid (play_new w)
  have SH := Lib.hid (fun V => short_any A l.length cap V g.cap_)
  have G := Lib.hid g
  obtain ⟨n, hn⟩ : ∃ n, n = min l.length 300 := ⟨_, rfl⟩
  rw [← hn] at SH
  have hn3 : n ≤ 300 := by omega
  have NLL : Hid (n ≤ l.length) := by show _ ≤ _; omega
  clear g hn
  obtain ⟨ln, hln⟩ : ∃ ln, ln = l.length := ⟨_, rfl⟩
  rw [← hln] at SH ⊢
  clear hln
  go_enter Try.func5, Try.ntmps5
  go_wp2_with (first
    | (go_at_call 9; (with_reducible refine NW.out.mono ?_); rintro e w1 ⟨q, rfl, b1, P1⟩)
    | (go_at_call 16; (with_reducible refine (AL.out _).mono ?_); rintro e w2 ⟨rfl, b2⟩)
    | (go_at_call 10; (with_reducible refine (SH.out _).mono ?_); rintro e w3 ⟨rfl, rfl⟩))
  have hsz1 := b1.out.size
  have R1 : Hid (PRun w q w1.heap.size l 0 w2) := ⟨P1.out.below b2.out fun k hk => Or.inl hk, (b1.out.alloc hsz1 _).trans (b2.out.mono (by simp; omega))⟩
  generalize w1.heap.size = r at R1 ⊢
  clear NW SH P1 b1 b2 hsz1
  go_loopw [31] (fun v wr => ∃ k : Nat, k ≤ n ∧ v = .int .i64 (k : Nat) ∧ Hid (PRun w q r l k wr)) (fun v _ => n - (intOf v).toNat)
  case atStart => exact ⟨0, Nat.zero_le _, rfl, R1⟩
  case round =>
    clear R1
    obtain ⟨k, hk, rfl, RK⟩ := hrel
    by_cases hlt : k < n
    · have hkl : k < l.length := Nat.lt_of_lt_of_le hlt NLL.out
      obtain ⟨b, off, hA, hbl, hc0, hc1, hc2⟩ := (G.out.below RK.out.bel).at_ k hkl
      have hok : (l.getD k av0).ok := G.out.ok _ (by rw [List.getD_eq_getElem?_getD, List.getElem?_eq_getElem hkl]; exact List.getElem_mem hkl)
      have HRL : Hid (runL l (k + 1) = doesR (runL l k) (l.getD k av0)) := runL_succ hkl
      have HP := RK.out.play
      have HB := Lib.hid RK.out.bel
      obtain ⟨L, hL⟩ : ∃ L, runL l k = L := ⟨_, rfl⟩
      rw [hL] at HP HRL
      have hyl := doesL_len HP.state.2.2.1 (l.getD k av0)
      generalize l.getD k av0 = a at hc0 hc1 hc2 hok HRL hyl
      have HR0 := Lib.hid (Kept.first wr 27 #[.int .u8 0, .int .i64 0, .int .i64 0])
      have HR1 := Lib.hid (HR0.out.set #[.int .u8 a.k, .int .i64 a.id, .int .i64 a.til])
      have r0 := HR1.out.cell 0
      have r1 := HR1.out.cell 1
      have r2 := HR1.out.cell 2
      have PW : Hid (∀ wq, Kept wr wq 27 #[.int .u8 a.k, .int .i64 a.id, .int .i64 a.til] → PlayS (fun z => z < w.heap.size ∨ z = wr.heap.size) q r L k wq) := fun wq h => HP.below h.2 fun z hz => hz.imp id fun e => ⟨Nat.le_of_eq e.symm, by have := blt h.1; omega⟩
      obtain ⟨y, hy⟩ : ∃ y, (doesL L a).length = y := ⟨_, rfl⟩
      rw [hy] at hyl
      subst hA
      have hkI : (k : Int) < (n : Int) := by omega
      have HOK := Lib.hid hok
      have HYL := Lib.hid hyl
      have HWR := Lib.hid RK.out.bel.size
      have HL := Lib.hid hL
      clear hok HP RK hyl hL
      have AVV : Hid (a.val = .agg #[.int .u8 a.k, .int .i64 a.id, .int .i64 a.til]) := rfl
      go_wp2_with (refine wpList_store_row rfl 27 _ _ rfl wr.heap.size #[.int .u8 a.k, .int .i64 a.id, .int .i64 a.til] rfl rfl 27 _ HR0.out.1 (by kernel_rfl) rfl (av_one _ _ _) ?_)
      generalize ((wr.alloc _).setRow _ _) = wq at HR1 r0 r1 r2 ⊢
      have P2 := (PW.out wq HR1.out).does (by omega) a HOK.out hy
      have HY := Lib.hid hy
      rw [AVV.out] at P2
      have DO := Lib.hid P2
      have BX := Lib.hid HR1.out.1
      have HBQ : Hid (Below w.heap.size w wq) := HB.out.trans (HR1.out.2.mono HWR.out)
      clear P2 hy PW HR0 HR1
      refine DO.out.mono ?_
      rintro e w3 ⟨A1, c1, rfl, H3, K3⟩
      have BX3 := Lib.hid (keep_cell K3.out (Or.inr rfl) BX.out)
      have HB3 : Hid (Below w.heap.size w w3) := HBQ.out.trans (below_of K3.out (fun z hz => Or.inl hz) HBQ.out.size)
      have s0 := bcell BX3.out 0
      have s1 := bcell BX3.out 1
      have s2 := bcell BX3.out 2
      have W2 := H3.out.would a HOK.out HY.out
      rw [AVV.out] at W2
      have WO := Lib.hid W2
      clear W2 r0 r1 r2 DO H3 K3 BX
      obtain ⟨L', hL'⟩ : ∃ L', L' = doesR L a := ⟨_, rfl⟩
      rw [← hL'] at WO HRL
      have HL' := Lib.hid hL'
      clear hL'
      obtain ⟨m, hm⟩ : ∃ m, L'.length = m := ⟨_, rfl⟩
      have HMM := Lib.hid hm
      generalize doesC L a = dc at WO ⊢
      generalize doesL L a = ys at WO HY
      have WAI : Hid (wf64 a.id) := HOK.out.2.1
      clear hm AVV
      go_wp2_with (go_at_call 19; (with_reducible refine WO.out.mono ?_); rintro e w4 ⟨A2, c2, rfl, I1, I2, P4, K4⟩)
      have BX4 := Lib.hid (keep_cell K4.out (Or.inr rfl) BX3.out)
      have HB4 : Hid (Below w.heap.size w w4) := HB3.out.trans (below_of K4.out (fun z hz => Or.inl hz) HB3.out.size)
      have FQ := Lib.hid P4.out.firstQ
      clear WO s0 s1 s2 K4 BX3 HB3
      go_wp2_with (go_at_call 20; (with_reducible refine FQ.out.mono ?_); rintro e w5 ⟨rfl, b5⟩)
      have P5 : Hid (PlayS (fun z => z < w.heap.size ∨ z = wr.heap.size) q r L' (k + 1) w5) := P4.out.below b5.out fun z hz => Or.inl hz
      have FR := Lib.hid P5.out.firstR
      have BXF : Hid (∀ V, Below w5.heap.size w5 V → V.cell? ⟨wr.heap.size, 1, none⟩ = some (.int .i64 a.id)) := fun V hV => bcell ((hV.block _ (by have := blt BX4.out; have := b5.out.size; omega)).trans ((b5.out.block _ (blt BX4.out)).trans BX4.out)) 1
      clear FQ
      go_wp2_with (go_at_call 21; (with_reducible refine FR.out.mono ?_); rintro e w6 ⟨rfl, b6⟩; have z1 := BXF.out _ b6.out)
      have B46 : Hid (Below w4.heap.size w4 w6) := b5.out.trans (b6.out.mono b5.out.size)
      have P6 : Hid (PlayS (fun z => z < w.heap.size ∨ z = wr.heap.size) q r L' (k + 1) w6) := P5.out.below b6.out fun z hz => Or.inl hz
      have HB6 : Hid (Below w.heap.size w w6) := HB4.out.trans (B46.out.mono HB4.out.size)
      have J1 : Hid (IntsAt w6 A1 ys) := I1.out.below B46.out
      have J2 : Hid (IntsAt w6 A2 ys) := I2.out.below B46.out
      have UQ := Lib.hid (P6.out.untilQ WAI.out)
      have UR := Lib.hid (P6.out.untilR a.id)
      obtain ⟨hrl, AR, cr, hcr⟩ := P6.out.box HMM.out
      have CC : Hid (∀ V, Below w6.heap.size w6 V → V.cell? ⟨r, 0, none⟩ = some (.slice AR m cr)) := fun V hV => (hV.cell (p := ⟨r, 0, none⟩) hrl).trans hcr
      have IN1 : Hid (∀ V, Below w6.heap.size w6 V → Calls Try.prog 23 #[.slice A1 y c1, .slice A2 y c2] V fun e w' => e = .returned (.bool true) ∧ Hid (Below w6.heap.size w6 w')) := fun V hV =>
        (ints_same A1 A2 c1 c2 y ys V (J1.out.below hV) (J2.out.below hV) HY.out HYL.out).mono fun e w' ⟨h1, h2⟩ => ⟨h1, hV.trans (h2.out.mono hV.size)⟩
      have LN : Hid (∀ V, Below w6.heap.size w6 V → Calls Try.prog 13 #[.pointer (some ⟨q, 0, none⟩)] V fun e w' => e = .returned (.int .i64 (m : Nat)) ∧ Hid (Below w6.heap.size w6 w')) := fun V hV =>
        ((P6.out.below (X' := fun z => z < w.heap.size ∨ z = wr.heap.size) hV fun z hz => Or.inl hz).lenQ HMM.out).mono fun e w' ⟨h1, h2⟩ => ⟨h1, by rw [← h2]; exact hV⟩
      have AQ : Hid (∀ V, Below w6.heap.size w6 V → Calls Try.prog 18 #[.pointer (some ⟨q, 0, none⟩)] V fun e w' => ∃ A3 c3, e = .returned (.slice A3 m c3) ∧ Hid (IntsAt w' A3 (ids L')) ∧ Hid (Below w6.heap.size w6 w')) := fun V hV =>
        ((P6.out.below (X' := fun z => z < w.heap.size ∨ z = wr.heap.size) hV fun z hz => Or.inl hz).allQ HMM.out).mono fun e w' ⟨A3, c3, h1, h2, h3⟩ => ⟨A3, c3, h1, h2, hV.trans (h3.out.mono hV.size)⟩
      have ARR : Hid (∀ V A3, Below w6.heap.size w6 V → IntsAt V A3 (ids L') → Calls Try.prog 24 #[.pointer (some ⟨r, 0, none⟩)] V fun e w' => ∃ A4 c4, e = .returned (.slice A4 m c4) ∧ Hid (IntsAt w' A3 (ids L') ∧ IntsAt w' A4 (ids L')) ∧ Hid (Below w6.heap.size w6 w')) := fun V A3 hV hI =>
        ((P6.out.below (X' := fun z => z < w.heap.size ∨ z = wr.heap.size) hV fun z hz => Or.inl hz).allR HMM.out).mono fun e w' ⟨A4, c4, h1, h2, h3⟩ => ⟨A4, c4, h1, ⟨hI.below h3.out, h2.out⟩, hV.trans (h3.out.mono hV.size)⟩
      have hm24 : Hid (m ≤ 2000000) := by have := P6.out.state.2.2.1; rw [HMM.out] at this; show _ ≤ _; omega
      have IN2 : Hid (∀ V A3 A4 c3 c4, Below w6.heap.size w6 V → IntsAt V A3 (ids L') ∧ IntsAt V A4 (ids L') → Calls Try.prog 23 #[.slice A3 m c3, .slice A4 m c4] V fun e w' => e = .returned (.bool true) ∧ Hid (Below w6.heap.size w6 w')) := fun V A3 A4 c3 c4 hV hI =>
        (ints_same A3 A4 c3 c4 m (ids L') V hI.1 hI.2 (by rw [← HMM.out]; simp [ids]) hm24.out).mono fun e w' ⟨h1, h2⟩ => ⟨h1, hV.trans (h2.out.mono hV.size)⟩
      have D0 : Hid (Below w6.heap.size w6 w6.drew) := (Below.refl _ _).drew
      have FIN : Hid (∀ V, Below w6.heap.size w6 V → PRun w q r l (k + 1) V) := fun V hV => ⟨by rw [HRL.out]; exact P6.out.below hV fun z hz => Or.inl (Or.inl hz), HB6.out.trans (hV.mono HB6.out.size)⟩
      clear FR P4 P5 b5 b6 I1 I2 BX4 BXF HB4 HBQ hrl HRL HL HL' HOK
      generalize idF L' = f1 at *
      generalize tilF L' = f2 at *
      generalize someF L' = f3 at *
      go_wp2_with (first
        | (go_at_call 12; (with_reducible refine UQ.out.mono ?_); rintro e w7 ⟨rfl, rfl⟩)
        | (go_at_call 22; (with_reducible refine UR.out.mono ?_); rintro e w7 ⟨rfl, rfl⟩))
      clear UQ UR
      generalize tilV L' a.id = g1
      generalize hasV L' a.id = g2
      have q1 : (f1 != f1) = false := by simp
      have q2 : (f2 != f2) = false := by simp
      have q3 : (f3 != f3) = false := by simp
      have q4 : (g1 != g1) = false := by simp
      have q5 : (g2 != g2) = false := by simp
      have q6 : (dc != dc) = false := by simp
      have q7 : ((m : Int) != (m : Int)) = false := by simp
      clear z1
      go_region_held3 (fun w' => w'.cell? ⟨r, 0, none⟩ = some (.slice AR m cr))
        (first
          | go_keep
          | exact CC.out _ d5.out
          | exact CC.out _ d4.out
          | exact CC.out _ d3.out
          | exact CC.out _ d2.out
          | exact CC.out _ d1.out)
        (first
          | (go_at_call 23; (with_reducible refine (IN2.out _ _ _ _ _ d4.out X4.out).mono ?_); rintro e v5 ⟨rfl, d5⟩)
          | (go_at_call 23; (with_reducible refine (IN1.out _ D0.out).mono ?_); rintro e v1 ⟨rfl, d1⟩)
          | (go_at_call 13; (with_reducible refine (LN.out _ d1.out).mono ?_); rintro e v2 ⟨rfl, d2⟩)
          | (go_at_call 18; (with_reducible refine (AQ.out _ d2.out).mono ?_); rintro e v3 ⟨A3, c3, rfl, X3, d3⟩)
          | (go_at_call 24; (with_reducible refine (ARR.out _ _ d3.out X3.out).mono ?_); rintro e v4 ⟨A4, c4, rfl, X4, d4⟩)
          | fail)
      have FF := Lib.hid (FIN.out _ d5.out)
      clear IN1 IN2 LN AQ ARR CC FIN X3 X4 d1 d2 d3 d4
      go_wp2_with fail
      go_roundw
      case rel => exact ⟨k + 1, by omega, by go_num, FF.out⟩
      case measure => simp [intOf]; omega
    · obtain rfl : k = n := by omega
      have HB := Lib.hid RK.out.bel
      go_wp2_with fail
      go_ret
      exact ⟨rfl, HB.out⟩
end Go.Proofs.Ytiaonfmdjipekaa.Ls
