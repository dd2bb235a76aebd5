/- Law: LeaseDue, the walk. Conditions: none. -/
import Derived.Test.YtiaonfmdjipekaaLawLsF
set_option linter.unusedVariables false
namespace Go.Proofs.Ytiaonfmdjipekaa.Ls
open Go.RowKit Go.Maps
set_option maxRecDepth 100000 in
set_option maxHeartbeats 6400000 in
theorem law_LeaseDue (w : World) (x : ActsArg) (g : ActsIn w x.A x.cap x.l) (now : Int) (hnow : -9223372036854775808 ≤ now ∧ now ≤ 9223372036854775807) :
    Calls Try.prog 6 #[.slice x.A x.l.length x.cap, .int .i64 now] w (LawPost w) := by
  obtain ⟨A, cap, l⟩ := x
  simp only at g ⊢
  have hmm := @run_makeMap Try.prog
  have AL := Lib.hid (fun V => alive_any V)
  have NW := Lib.hid (new_run w l)
  have SH := Lib.hid (fun V => short_any A l.length cap V g.cap_)
  have G := Lib.hid g
  have WX : Hid (wf64 now) := ⟨by omega, by omega⟩
  obtain ⟨n, hn⟩ : ∃ n, n = min l.length 300 := ⟨_, rfl⟩
  rw [← hn] at SH
  have hn3 : n ≤ 300 := by omega
  have NLL : Hid (n ≤ l.length) := by show _ ≤ _; omega
  clear g hn hnow
  obtain ⟨ln, hln⟩ : ∃ ln, ln = l.length := ⟨_, rfl⟩
  rw [← hln] at SH ⊢
  clear hln
  go_enter Try.func6, Try.ntmps6
  go_wp2_with (first
    | (go_at_call 9; (with_reducible refine NW.out.mono ?_); rintro e w1 ⟨q, rfl, R1⟩)
    | (go_at_call 10; (with_reducible refine (SH.out _).mono ?_); rintro e w2 ⟨rfl, rfl⟩))
  clear NW SH
  go_loopw [29] (fun v wr => ∃ k : Nat, k ≤ n ∧ v = .int .i64 (k : Nat) ∧ Hid (RunSt w q l k wr)) (fun v _ => n - (intOf v).toNat)
  case atStart => exact ⟨0, Nat.zero_le _, rfl, R1⟩
  case round =>
    clear R1
    obtain ⟨k, hk, rfl, RK⟩ := hrel
    by_cases hlt : k < n
    · have hkl : k < l.length := Nat.lt_of_lt_of_le hlt NLL.out
      obtain ⟨b, off, hA, hbl, hc0, hc1, hc2⟩ := (G.out.below RK.out.bel).at_ k hkl
      have hok : (l.getD k av0).ok := G.out.ok _ (by rw [List.getD_eq_getElem?_getD, List.getElem?_eq_getElem hkl]; exact List.getElem_mem hkl)
      have DO := Lib.hid (fun V hV => RK.out.does hkl (by omega) hok V hV)
      generalize l.getD k av0 = a at hc0 hc1 hc2 DO
      obtain ⟨ak, ai, at_⟩ := a
      unfold AV.val at DO
      simp only at hc0 hc1 hc2 DO
      have HR0 := Lib.hid (Kept.first wr 27 #[.int .u8 0, .int .i64 0, .int .i64 0])
      have HR1 := Lib.hid (HR0.out.set #[.int .u8 ak, .int .i64 ai, .int .i64 at_])
      have r0 := HR1.out.cell 0
      have r1 := HR1.out.cell 1
      have r2 := HR1.out.cell 2
      subst hA
      have hkI : (k : Int) < (n : Int) := by omega
      clear hok
      go_wp2_with (refine wpList_store_row rfl 27 _ _ rfl wr.heap.size #[.int .u8 ak, .int .i64 ai, .int .i64 at_] rfl rfl 27 _ HR0.out.1 (by kernel_rfl) rfl (av_one _ _ _) ?_)
      generalize ((wr.alloc _).setRow _ _) = wq at HR1 r0 r1 r2 ⊢
      refine (DO.out wq HR1.out.2).mono ?_
      rintro e w3 ⟨v, c, rfl, R3⟩
      clear r0 r1 r2 HR1 HR0
      go_wp2_with fail
      go_roundw
      case rel => exact ⟨k + 1, by omega, by go_num, R3⟩
      case measure => simp [intOf]; omega
    · obtain rfl : k = n := by omega
      obtain ⟨L, hL⟩ : ∃ L, runL l k = L := ⟨_, rfl⟩
      obtain ⟨m, hm⟩ : ∃ m, L.length = m := ⟨_, rfl⟩
      have AA := Lib.hid (RK.out.mapped hL hm)
      have hst := RK.out.que.state
      rw [hL] at hst
      have hm4 : m ≤ 1024 := by have := hst.2.2.1; omega
      have HM := Lib.hid hm
      have HS := Lib.hid hst
      clear RK hL hm NLL G hst
      go_wp2_with (go_at_call 18; (with_reducible refine AA.out.mono ?_); rintro e w3 ⟨A', c', rfl, S0⟩)
      clear AA
      generalize wr.heap.size = Dm at S0 ⊢
      go_loopw [41] (fun v wr => ∃ j : Nat, j ≤ m ∧ v = .int .i64 (j : Nat) ∧ Hid (MapSt w q L k Dm A' j wr)) (fun v _ => m - (intOf v).toNat)
      case atStart => exact ⟨0, Nat.zero_le _, rfl, S0⟩
      case round =>
        clear S0
        obtain ⟨j, hj, rfl, SJ⟩ := hrel
        by_cases hlt : j < m
        · have hjl : j < L.length := by rw [HM.out]; omega
          obtain ⟨x, hx⟩ : ∃ x, (L.getD j (0, 0)).1 = x := ⟨_, rfl⟩
          obtain ⟨u, hu⟩ : ∃ u, (L.getD j (0, 0)).2 = u := ⟨_, rfl⟩
          obtain ⟨wx, wu, UN⟩ := SJ.out.until hjl hx hu
          have UNH := Lib.hid UN
          obtain ⟨g, hA, hg, hc0⟩ := SJ.out.row.get j (by simpa [ids] using hjl)
          rw [ids_at hjl, hx] at hc0
          obtain ⟨dm, ho, hd⟩ := SJ.out.map
          have HO := Lib.hid ho
          have HWX := Lib.hid wx
          have HP : Hid (∀ w', w'.ownsMap Try.prog 3 RI Dm (j + 1) (dm.put (.int .i64 x) (.lit (.int .i64 u))) → wr.grownBy w' (some Dm) → MapSt w q L k Dm A' (j + 1) w') := fun w' h1 h2 => SJ.out.step h2 (MapAt.put hjl HS.out.2.1 ho hd hx hu wx h1)
          have HU : Hid (RI (.int .i64 u) = some (.lit (.int .i64 u), [])) := plainElem_int Try.underlying3 (wfI wu)
          have hjI : (j : Int) < (m : Int) := by omega
          have hjm : j < maxLen := by unfold maxLen; omega
          subst hA
          clear UN ho hd hx hu wx wu SJ hjl
          go_wp2_with (first
            | (go_at_call 12; (with_reducible refine UNH.out.mono ?_); rintro e w4 ⟨rfl, rfl⟩)
            | (at_mapUpdate; refine wpList_mapUpdate_own _ rfl _ _ _ 53 rfl 3 3 keyI Try.underlying53 RI Dm j dm rfl HO.out hjm _ _ (.int .i64 x) rfl rfl (keyOfI HWX.out) (.lit (.int .i64 u)) [] HU.out ?_))
          intro w5 hown5 hgrow5
          have S5 := Lib.hid (HP.out _ hown5 hgrow5)
          clear hown5 hgrow5 HO HP
          go_wp2_with fail
          go_roundw
          case rel => exact ⟨j + 1, by omega, by go_num, S5⟩
          case measure => simp [intOf]; omega
        · obtain rfl : j = m := by omega
          obtain ⟨y, hy⟩ : ∃ y, (dueL L now).length = y := ⟨_, rfl⟩
          obtain ⟨m2, hm2⟩ : ∃ m2, (dueN L now).length = m2 := ⟨_, rfl⟩
          have hsum : y + m2 = j := by rw [← hy, ← hm2, due_len, HM.out]
          have LN1 : Hid (Calls Try.prog 13 #[.pointer (some ⟨q, 0, none⟩)] wr fun e w' => e = .returned (.int .i64 (j : Nat)) ∧ wr = w') := by
            have h := qlen_any wr _ q L k SJ.out.que
            rw [HM.out] at h
            exact h
          have DU : Hid (Calls Try.prog 15 #[.pointer (some ⟨q, 0, none⟩), .int .i64 now] wr fun e w' => ∃ A2 c2, e = .returned (.slice A2 y c2) ∧ Hid (IntsAt w' A2 (dueL L now)) ∧ Hid (EndSt w q L (dueN L now) k Dm w')) := by
            have S := SJ.out
            rw [← HM.out] at S
            exact S.due WX.out hy
          have HY := Lib.hid hy
          have HM2 := Lib.hid hm2
          clear SJ hy hm2
          go_wp2_with (first
            | (go_at_call 13; (with_reducible refine LN1.out.mono ?_); rintro e w4 ⟨rfl, rfl⟩)
            | (go_at_call 15; (with_reducible refine DU.out.mono ?_); rintro e w5 ⟨A2, c2, rfl, I5, E5⟩))
          clear LN1 DU
          go_loopw [64] (fun v wr => ∃ i : Nat, i ≤ y ∧ v = .int .i64 (i : Nat) ∧ wr = w5) (fun v _ => y - (intOf v).toNat)
          case atStart => exact ⟨0, Nat.zero_le _, rfl, rfl⟩
          case round =>
            obtain ⟨i, hi, rfl, rfl⟩ := hrel
            by_cases hlt2 : i < y
            · obtain ⟨da, db, dc⟩ := due_at (L := L) (now := now) (i := i) (by rw [HY.out]; exact hlt2)
              obtain ⟨b, hA, hbl, hc0⟩ := I5.out.get i (by rw [HY.out]; exact hlt2)
              rw [da] at hc0
              have hmem : L.getD i (0, 0) ∈ L := by rw [List.getD_eq_getElem?_getD, List.getElem?_eq_getElem dc]; exact List.getElem_mem dc
              have wf := HS.out.2.2.2 _ hmem
              have hnot : (L.getD i (0, 0)).1 ∉ ids (dueN L now) := due_not HS.out.2.1 (by
                rw [← da, List.getD_eq_getElem?_getD, List.getElem?_eq_getElem (by rw [HY.out]; exact hlt2)]
                exact List.getElem_mem _)
              obtain ⟨x, hx⟩ : ∃ x, (L.getD i (0, 0)).1 = x := ⟨_, rfl⟩
              obtain ⟨u, hu⟩ : ∃ u, (L.getD i (0, 0)).2 = u := ⟨_, rfl⟩
              have hl := E5.out.map.look_ok dc hx hu (by rw [hx] at wf; exact ⟨by omega, wf.2.2⟩)
              have UN := Lib.hid (E5.out.until (x := x) (by rw [hx] at wf; exact ⟨by omega, wf.2.2⟩) (by rw [← hx]; exact hnot))
              have PR : Hid (∀ i', i = i' + 1 → ltP (L.getD i' (0, 0)) (L.getD i (0, 0)) ∧ i' < L.length ∧ (dueL L now).getD i' 0 = (L.getD i' (0, 0)).1 ∧ wf64 (L.getD i' (0, 0)).1) := fun i' e => by
                subst e
                have h1 := due_at (L := L) (now := now) (i := i') (by rw [HY.out]; omega)
                have hmem' : L.getD i' (0, 0) ∈ L := by rw [List.getD_eq_getElem?_getD, List.getElem?_eq_getElem h1.2.2]; exact List.getElem_mem h1.2.2
                have wf' := HS.out.2.2.2 _ hmem'
                exact ⟨pair_at HS.out.1 dc, h1.2.2, h1.1, ⟨by omega, wf'.2.2⟩⟩
              rw [hx] at hc0
              rw [hu] at db
              have hng : ¬ (now < u) := by omega
              have hiI : (i : Int) < (y : Int) := by omega
              subst hA
              clear da dc hmem wf hnot
              cases i with
              | zero =>
                have h00 : (0 : Int) ≤ 0 := Int.le_refl _
                clear PR
                go_wp2_with (go_at_call 12; (with_reducible refine UN.out.mono ?_); rintro e w6 ⟨rfl, rfl⟩)
                go_roundw
                case rel => exact ⟨1, by omega, rfl, by trivial⟩
                case measure => simp [intOf]; omega
              | succ i' =>
                obtain ⟨hlp, hil', hda', hwf'⟩ := PR.out i' rfl
                obtain ⟨x', hx'⟩ : ∃ x, (L.getD i' (0, 0)).1 = x := ⟨_, rfl⟩
                obtain ⟨u', hu'⟩ : ∃ u, (L.getD i' (0, 0)).2 = u := ⟨_, rfl⟩
                rw [hx'] at hda' hwf'
                have hl' := E5.out.map.look hil' hx' hu' hwf'
                obtain ⟨b', hb', _, hc1⟩ := I5.out.get i' (by rw [HY.out]; omega)
                rw [hda'] at hc1
                obtain rfl : b = b' := by simpa using hb'
                have hlp2 : u' < u ∨ u' = u ∧ x' < x := by
                  unfold ltP at hlp
                  rw [hx, hu, hx', hu'] at hlp
                  exact hlp
                have hg1 : ¬ (u < u') := by omega
                have e1 : (((i' + 1 : Nat) : Int)) = (i' : Int) + 1 := by omega
                have hi0 : (0 : Int) ≤ (i' : Int) := by omega
                have hi1 : (0 : Int) < (i' : Int) + 1 := by omega
                have hi2 : (i' : Int) < (y : Int) := by omega
                have hi3 : (i' : Int) + 1 < (y : Int) := by omega
                clear PR hlp hil' hda' hwf' hb' hx hu hx' hu'
                rcases hlp2 with h | ⟨h, h'⟩
                · have hq : (u' == u) = false := by simp; omega
                  clear h
                  go_wp2_with (go_at_call 12; (with_reducible refine UN.out.mono ?_); rintro e w6 ⟨rfl, rfl⟩)
                  go_roundw
                  case rel => exact ⟨i' + 1 + 1, by omega, by go_num, by trivial⟩
                  case measure => simp [intOf]; omega
                · have hq : (u' == u) = true := by simp [h]
                  have hq3 : ¬ (x ≤ x') := by omega
                  clear h h'
                  go_wp2_with (go_at_call 12; (with_reducible refine UN.out.mono ?_); rintro e w6 ⟨rfl, rfl⟩)
                  go_roundw
                  case rel => exact ⟨i' + 1 + 1, by omega, by go_num, by trivial⟩
                  case measure => simp [intOf]; omega
            · obtain rfl : i = y := by omega
              have AA := Lib.hid (E5.out.all HM2.out)
              clear I5
              go_wp2_with (go_at_call 18; (with_reducible refine AA.out.mono ?_); rintro e w6 ⟨A6, c6, rfl, I6, E6⟩)
              clear AA E5
              go_loopw [128] (fun v wr => ∃ r : Nat, r ≤ m2 ∧ v = .int .i64 (r : Nat) ∧ wr = w6) (fun v _ => m2 - (intOf v).toNat)
              case atStart => exact ⟨0, Nat.zero_le _, rfl, rfl⟩
              case round =>
                obtain ⟨r, hr, rfl, rfl⟩ := hrel
                by_cases hlt3 : r < m2
                · have hrl : r < (dueN L now).length := by rw [HM2.out]; exact hlt3
                  have hra := rest_at hrl
                  rw [HY.out] at hra
                  have hil : i + r < L.length := by rw [HM.out]; omega
                  obtain ⟨b, hA, hbl, hc0⟩ := I6.out.get r (by simpa [ids] using hrl)
                  rw [ids_at hrl, hra] at hc0
                  have hmem : L.getD (i + r) (0, 0) ∈ L := by rw [List.getD_eq_getElem?_getD, List.getElem?_eq_getElem hil]; exact List.getElem_mem hil
                  have wf := HS.out.2.2.2 _ hmem
                  have htil : now < (L.getD (i + r) (0, 0)).2 := by
                    rw [← hra]
                    exact rest_til HS.out.1 _ (by rw [List.getD_eq_getElem?_getD, List.getElem?_eq_getElem hrl]; exact List.getElem_mem hrl)
                  obtain ⟨x, hx⟩ : ∃ x, (L.getD (i + r) (0, 0)).1 = x := ⟨_, rfl⟩
                  obtain ⟨u, hu⟩ : ∃ u, (L.getD (i + r) (0, 0)).2 = u := ⟨_, rfl⟩
                  have hl := E6.out.map.look hil hx hu (by rw [hx] at wf; exact ⟨by omega, wf.2.2⟩)
                  rw [hx] at hc0
                  rw [hu] at htil
                  have hng : ¬ (u ≤ now) := by omega
                  have hrI : (r : Int) < (m2 : Int) := by omega
                  subst hA
                  clear hx hu wf hmem hil hra hrl htil
                  go_wp2_with fail
                  go_roundw
                  case rel => exact ⟨r + 1, by omega, by go_num, by trivial⟩
                  case measure => simp [intOf]; omega
                · obtain rfl : r = m2 := by omega
                  have LN2 := Lib.hid (qlen_any wr _ q _ k E6.out.que)
                  rw [HM2.out] at LN2
                  have hadd : ((r : Int) + (i : Int) == (j : Int)) = true := by rw [beq_iff_eq]; omega
                  have hr4 : (r : Int) ≤ 1024 := by omega
                  have hi4 : (i : Int) ≤ 1024 := by omega
                  clear I6
                  go_wp2_with (first
                    | (go_at_call 13; (with_reducible refine LN2.out.mono ?_); rintro e w7 ⟨rfl, rfl⟩)
                    | (go_at_call 16; (with_reducible refine (AL.out _).mono ?_); rintro e w8 ⟨rfl, b8⟩))
                  go_ret
                  exact ⟨rfl, E6.out.bel.trans (b8.out.mono E6.out.bel.size)⟩
end Go.Proofs.Ytiaonfmdjipekaa.Ls
