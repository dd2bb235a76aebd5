/- Law: LeaseSame, the walk. Conditions: none. -/
import Derived.Test.YtiaonfmdjipekaaLawLsD
set_option linter.unusedVariables false
namespace Go.Proofs.Ytiaonfmdjipekaa.Ls
open Go.RowKit Go.Maps
structure TwoRun (w : World) (p q : Nat) (acts : List AV) (k : Nat) (wr : World) : Prop where
  two : Two (fun b => b < w.heap.size) p q (runL acts k) [] k wr
  bel : Below w.heap.size w wr
theorem TwoRun.does {w : World} {p q : Nat} {acts : List AV} {k : Nat} {wr : World} (S : TwoRun w p q acts k wr) (hk : k < acts.length) (hl : k < 1000000) (ha : (acts.getD k av0).ok) (V : World) (hV : Below wr.heap.size wr V) :
    Calls Try.prog 11 #[.pointer (some ⟨p, 0, none⟩), (acts.getD k av0).val] V fun e w' => ∃ v c, e = .returned (.tuple #[v, c]) ∧ Hid (TwoRun w p q acts (k + 1) w') := by
  have hT := S.two.below hV (R' := fun b => b < w.heap.size) fun k hk => Or.inl hk
  refine (hT.does hl _ ha).mono ?_
  rintro e w' ⟨v, c, rfl, h1, h2⟩
  have b1 := S.bel.trans (hV.mono S.bel.size)
  refine ⟨v, c, rfl, ?_, b1.trans (below_of h2.out (fun k hk => hk) b1.size)⟩
  rw [runL_succ hk]
  exact h1.out
/-- the list, and the queues behind it -/
theorem TwoRun.all {w : World} {p q m : Nat} {acts : List AV} {k : Nat} {L : List Pr} {wr : World} (S : TwoRun w p q acts k wr) (hL : runL acts k = L) (hm : L.length = m) (hk : k ≤ 300) :
    Calls Try.prog 18 #[.pointer (some ⟨p, 0, none⟩)] wr fun e w' => ∃ A c, e = .returned (.slice A m c) ∧ Hid (SameSt w (RowR (fun b => b < w.heap.size) A) p q L A m w') := by
  have hT := S.two
  rw [hL] at hT
  refine (hT.all hm).mono ?_
  rintro e w' ⟨A, c, h1, h2, h3, h4⟩
  refine ⟨A, c, h1, ⟨k, by omega, ?_⟩, h2.out, S.bel.trans (h4.out.mono S.bel.size)⟩
  rw [← hm, List.drop_length]
  exact h3.out
theorem SameSt.untilP {w : World} {R : Nat → Prop} {p q : Nat} {L : List Pr} {A : Option Addr} {k j : Nat} {wr : World} (S : SameSt w R p q L A k wr) (hj : j < L.length) {i u : Int} (hi : (L.getD j (0, 0)).1 = i) (hu : (L.getD j (0, 0)).2 = u) :
    Calls Try.prog 12 #[.pointer (some ⟨p, 0, none⟩), .int .i64 i] wr fun e w' => e = .returned (.tuple #[.int .i64 u, .bool true]) ∧ wr = w' := by
  obtain ⟨N, _, hT⟩ := S.two
  have st := hT.state
  have hmem : L.getD j (0, 0) ∈ L := by rw [List.getD_eq_getElem?_getD, List.getElem?_eq_getElem hj]; exact List.getElem_mem hj
  have wf := st.2.2.2 _ hmem
  have ht := tilOf_some (x := i) (t := u) st.2.1 (by rw [← hi, ← hu]; exact hmem)
  rw [hi] at wf
  have h := hT.until (x := i) ⟨by omega, wf.2.2⟩
  have e1 : tilV L i = u := by unfold tilV; rw [ht]; rfl
  have e2 : hasV L i = true := by unfold hasV; rw [ht]; rfl
  rw [e1, e2] at h
  exact h
theorem SameSt.wf {w : World} {R : Nat → Prop} {p q : Nat} {L : List Pr} {A : Option Addr} {k j : Nat} {wr : World} (S : SameSt w R p q L A k wr) (hj : j < L.length) : wf64 (L.getD j (0, 0)).2 := by
  obtain ⟨N, _, hT⟩ := S.two
  have hmem : L.getD j (0, 0) ∈ L := by rw [List.getD_eq_getElem?_getD, List.getElem?_eq_getElem hj]; exact List.getElem_mem hj
  exact (hT.state.2.2.2 _ hmem).1
set_option maxRecDepth 100000 in
set_option maxHeartbeats 6400000 in
theorem law_LeaseSame (w : World) (x : ActsArg) (g : ActsIn w x.A x.cap x.l) :
    Calls Try.prog 7 #[.slice x.A x.l.length x.cap] w (LawPost w) := by
  obtain ⟨A, cap, l⟩ := x
  simp only at g ⊢
  have AL := Lib.hid (fun V => alive_any V)
  have NW := Lib.hid (two_new w)
  have SH := Lib.hid (fun V => short_any A l.length cap V g.cap_)
  have G := Lib.hid g
  obtain ⟨n, hn⟩ : ∃ n, n = min l.length 300 := ⟨_, rfl⟩
  rw [← hn] at SH
  have hn3 : n ≤ 300 := by omega
  have NLL : Hid (n ≤ l.length) := by show _ ≤ _; omega
  clear g hn
  obtain ⟨ln, hln⟩ : ∃ ln, ln = l.length := ⟨_, rfl⟩
  rw [← hln] at SH ⊢
  clear hln
  go_enter Try.func7, Try.ntmps7
  go_wp2_with (first
    | (go_at_call 9; first
        | ((with_reducible refine NW2.out.mono ?_); rintro e w2 ⟨q, rfl, T0, b0⟩)
        | ((with_reducible refine NW.out.mono ?_); rintro e w1 ⟨p, rfl, NW2⟩)
        | fail)
    | (go_at_call 10; (with_reducible refine (SH.out _).mono ?_); rintro e w3 ⟨rfl, rfl⟩))
  have R1 : Hid (TwoRun w p q l 0 w2) := ⟨T0.out, b0.out⟩
  clear T0 b0 NW NW2 SH
  go_loopw [28] (fun v wr => ∃ k : Nat, k ≤ n ∧ v = .int .i64 (k : Nat) ∧ Hid (TwoRun w p q l k wr)) (fun v _ => n - (intOf v).toNat)
  case atStart => exact ⟨0, Nat.zero_le _, rfl, R1⟩
  case round =>
    clear R1
    obtain ⟨k, hk, rfl, RK⟩ := hrel
    by_cases hlt : k < n
    · have hkl : k < l.length := Nat.lt_of_lt_of_le hlt NLL.out
      obtain ⟨b, off, hA, hbl, hc0, hc1, hc2⟩ := (G.out.below RK.out.bel).at_ k hkl
      have hok : (l.getD k av0).ok := G.out.ok _ (by rw [List.getD_eq_getElem?_getD, List.getElem?_eq_getElem hkl]; exact List.getElem_mem hkl)
      have DO := Lib.hid (fun V hV => RK.out.does hkl (by omega) hok V hV)
      generalize l.getD k av0 = a at hc0 hc1 hc2 DO
      obtain ⟨ak, ai, at_⟩ := a
      unfold AV.val at DO
      simp only at hc0 hc1 hc2 DO
      have HR0 := Lib.hid (Kept.first wr 27 #[.int .u8 0, .int .i64 0, .int .i64 0])
      have HR1 := Lib.hid (HR0.out.set #[.int .u8 ak, .int .i64 ai, .int .i64 at_])
      have r0 := HR1.out.cell 0
      have r1 := HR1.out.cell 1
      have r2 := HR1.out.cell 2
      subst hA
      have hkI : (k : Int) < (n : Int) := by omega
      clear hok
      go_wp2_with (refine wpList_store_row rfl 27 _ _ rfl wr.heap.size #[.int .u8 ak, .int .i64 ai, .int .i64 at_] rfl rfl 27 _ HR0.out.1 (by kernel_rfl) rfl (av_one _ _ _) ?_)
      generalize ((wr.alloc _).setRow _ _) = wq at HR1 r0 r1 r2 ⊢
      refine (DO.out wq HR1.out.2).mono ?_
      rintro e w3 ⟨v, c, rfl, R3⟩
      clear r0 r1 r2 HR1 HR0
      go_wp2_with fail
      go_roundw
      case rel => exact ⟨k + 1, by omega, by go_num, R3⟩
      case measure => simp [intOf]; omega
    · obtain rfl : k = n := by omega
      obtain ⟨L, hL⟩ : ∃ L, runL l k = L := ⟨_, rfl⟩
      obtain ⟨m, hm⟩ : ∃ m, L.length = m := ⟨_, rfl⟩
      have AA := Lib.hid (RK.out.all hL hm hn3)
      have hm4 : m ≤ 1024 := by have := RK.out.two.state.2.2.1; rw [hL] at this; omega
      have HM := Lib.hid hm
      clear RK hL hm NLL G
      go_wp2_with (go_at_call 18; (with_reducible refine AA.out.mono ?_); rintro e w3 ⟨A', c', rfl, S0⟩)
      go_loopw [8] (fun v wr => ∃ j : Nat, j ≤ m ∧ v = .int .i64 ((j : Int) - 1) ∧ Hid (SameSt w (RowR (fun b => b < w.heap.size) A') p q L A' j wr)) (fun v _ => (intOf v + 1).toNat)
      case atStart => exact ⟨m, Nat.le_refl _, rfl, S0⟩
      case round =>
        clear S0 AA
        obtain ⟨j, hj, hv, SJ⟩ := hrel
        cases j with
        | succ j =>
          have e1 : (((j + 1 : Nat) : Int) - 1) = (j : Int) := by omega
          rw [e1] at hv
          subst hv
          have hjl : j < L.length := by rw [HM.out]; omega
          obtain ⟨i, hi⟩ : ∃ i, (L.getD j (0, 0)).1 = i := ⟨_, rfl⟩
          obtain ⟨u, hu⟩ : ∃ u, (L.getD j (0, 0)).2 = u := ⟨_, rfl⟩
          have UN := Lib.hid (SJ.out.untilP hjl hi hu)
          have PP := Lib.hid (SJ.out.puts hjl (by rw [HM.out]; exact hm4) (fun k hk => Or.inl hk) (fun g hg => Or.inr hg) hi hu rfl)
          obtain ⟨g, hA, hg, hc0⟩ := SJ.out.row.get j (by simpa [ids] using hjl)
          rw [ids_at hjl, hi] at hc0
          have hwf := SJ.out.wf hjl
          rw [hu] at hwf
          have hw : wrap64 (u - min u 1) = u - min u 1 := by
            have h1 := hwf.1
            have h2 := hwf.2
            unfold wrap64
            omega
          have hjm : (j : Int) < (m : Int) := by omega
          have hj0 : (0 : Int) ≤ (j : Int) := by omega
          subst hA
          clear hi hu hjl SJ e1 hwf
          go_wp2_with (first
            | (go_at_call 12; (with_reducible refine UN.out.mono ?_); rintro e w4 ⟨rfl, rfl⟩)
            | (go_at_call 17; first
                | ((with_reducible refine PP2.out.mono ?_); rintro e w6 ⟨rfl, S6⟩)
                | ((with_reducible refine PP.out.mono ?_); rintro e w5 ⟨rfl, ⟨g', hg', hc5⟩, PP2⟩; cases hg')
                | fail))
          go_roundw
          case rel => exact ⟨j, by omega, rfl, S6⟩
          case measure => simp [intOf]
        | zero =>
          have e1 : (((0 : Nat) : Int) - 1) = -1 := rfl
          rw [e1] at hv
          subst hv
          have MI := Lib.hid (SJ.out.mid HM.out hm4)
          have LP : Hid (∀ V, SameX w (RowR (fun b => b < w.heap.size) A') p q L V → Calls Try.prog 13 #[.pointer (some ⟨p, 0, none⟩)] V fun e w' => e = .returned (.int .i64 (m : Nat)) ∧ V = w') := fun V S => S.lenP HM.out
          have LQ : Hid (∀ V, SameX w (RowR (fun b => b < w.heap.size) A') p q L V → Calls Try.prog 13 #[.pointer (some ⟨q, 0, none⟩)] V fun e w' => e = .returned (.int .i64 (m : Nat)) ∧ V = w') := fun V S => S.symm.lenP HM.out
          have hq1 : ((m : Int) != (m : Int)) = false := by simp
          clear SJ e1
          go_wp2_with (first
            | (go_at_call 18; (with_reducible refine MI.out.mono ?_); rintro e w4 ⟨A4, c4, rfl, M4⟩)
            | (go_at_call 23; (with_reducible refine (M4.out _).mono ?_); rintro e w5 ⟨rfl, X5⟩)
            | (go_at_call 13; first
                | ((with_reducible refine (LP.out _ X5.out).mono ?_); rintro e w6 ⟨rfl, rfl⟩)
                | ((with_reducible refine (LQ.out _ X5.out).mono ?_); rintro e w6 ⟨rfl, rfl⟩)
                | fail))
          clear LP LQ MI M4
          have RR : Hid (∀ k, k < w.heap.size → RowR (fun b => b < w.heap.size) A' k) := fun k hk => Or.inl hk
          generalize RowR (fun b => b < w.heap.size) A' = R at X5 RR
          go_loopw [89] (fun v wr => ∃ (k : Nat) (X : List Pr), k ≤ m ∧ v = .int .i64 (k : Nat) ∧ Hid (SameX w R p q X wr) ∧ Hid ((k = 0 ∧ X = L) ∨ X ≠ [])) (fun v _ => m - (intOf v).toNat)
          case atStart => exact ⟨0, L, Nat.zero_le _, rfl, X5, Or.inl ⟨rfl, rfl⟩⟩
          case round =>
            clear X5
            obtain ⟨k, X, hk, rfl, S0, hX⟩ := hrel
            have hlen : X.length ≤ 1024 := by
              obtain ⟨N, hT⟩ := S0.out.two
              exact hT.state.2.2.1
            by_cases hlt : k < m
            · obtain ⟨i, u, X', rfl⟩ : ∃ i u X', X = (i, u) :: X' := by
                cases X with
                | nil =>
                  rcases hX.out with ⟨_, h1⟩ | h1
                  · exfalso
                    have h2 := HM.out
                    rw [← h1] at h2
                    simp at h2
                    omega
                  · exact absurd rfl h1
                | cons a X' => exact ⟨a.1, a.2, X', rfl⟩
              have hu : wf64 u := by
                obtain ⟨N, hT⟩ := S0.out.two
                exact (hT.state.2.2.2 _ List.mem_cons_self).1
              obtain ⟨y, hy⟩ : ∃ y, (dueL ((i, u) :: X') u).length = y := ⟨_, rfl⟩
              have hyl : y ≤ 2000000 := by
                have h1 := (List.takeWhile_sublist (fun a : Pr => decide (a.2 ≤ u)) (l := (i, u) :: X')).length_le
                rw [← hy]
                unfold dueL ids
                rw [List.length_map]
                omega
              have FP : Hid (∀ V, SameX w R p q ((i, u) :: X') V → Calls Try.prog 20 #[.pointer (some ⟨p, 0, none⟩)] V fun e w' => e = .returned (.tuple #[.int .i64 i, .int .i64 u, .bool true]) ∧ Hid (SameX w R p q ((i, u) :: X') w')) := fun V S => S.firstP
              have FQ : Hid (∀ V, SameX w R p q ((i, u) :: X') V → Calls Try.prog 20 #[.pointer (some ⟨q, 0, none⟩)] V fun e w' => e = .returned (.tuple #[.int .i64 i, .int .i64 u, .bool true]) ∧ Hid (SameX w R p q ((i, u) :: X') w')) := fun V S => S.firstQ
              have DP : Hid (∀ V, SameX w R p q ((i, u) :: X') V → Calls Try.prog 15 #[.pointer (some ⟨p, 0, none⟩), .int .i64 u] V fun e w' => ∃ A1 c1, e = .returned (.slice A1 y c1) ∧ Hid (HalfX w R p q (dueN ((i, u) :: X') u) ((i, u) :: X') (dueL ((i, u) :: X') u) A1 w')) := fun V S => S.dueP RR.out hu hy
              have DQ : Hid (∀ V A1, HalfX w R p q (dueN ((i, u) :: X') u) ((i, u) :: X') (dueL ((i, u) :: X') u) A1 V → Calls Try.prog 15 #[.pointer (some ⟨q, 0, none⟩), .int .i64 u] V fun e w' => ∃ A2 c2, e = .returned (.slice A2 y c2) ∧ Hid (∀ c1, Calls Try.prog 23 #[.slice A1 y c1, .slice A2 y c2] w' fun e w2 => e = .returned (.bool true) ∧ Hid (SameX w R p q (dueN ((i, u) :: X') u) w2))) := fun V A1 H => H.dueQ rfl RR.out hu hy hyl
              obtain ⟨X2, hX2⟩ : ∃ X2, dueN ((i, u) :: X') u = X2 := ⟨_, rfl⟩
              rw [hX2] at DP DQ
              obtain ⟨m2, hm2⟩ : ∃ m2, X2.length = m2 := ⟨_, rfl⟩
              have LP : Hid (∀ V, SameX w R p q X2 V → Calls Try.prog 13 #[.pointer (some ⟨p, 0, none⟩)] V fun e w' => e = .returned (.int .i64 (m2 : Nat)) ∧ V = w') := fun V S => S.lenP hm2
              have FF : Hid (∀ V, m2 = 0 → SameX w R p q X2 V → Calls Try.prog 18 #[.pointer (some ⟨p, 0, none⟩)] V fun e w1 => ∃ A1 c1, e = .returned (.slice A1 m2 c1) ∧ Hid (Calls Try.prog 18 #[.pointer (some ⟨q, 0, none⟩)] w1 fun e w2 => ∃ A2 c2, e = .returned (.slice A2 m2 c2) ∧ Hid (Calls Try.prog 23 #[.slice A1 m2 c1, .slice A2 m2 c2] w2 fun e w3 => e = .returned (.bool true) ∧ Hid (Below w.heap.size w w3)))) := fun V h S => S.all2 hm2 (by omega)
              have HX2 : Hid (m2 ≠ 0 → X2 ≠ []) := fun h e => h (by rw [← hm2, e]; rfl)
              have hkI : (k : Int) < (m : Int) := by omega
              have qi : (i != i) = false := by simp
              have qu : (u != u) = false := by simp
              clear hX hu hlen hy hX2 hm2
              by_cases h2 : m2 = 0
              · have qz : ((m2 : Int) == 0) = true := by simp [h2]
                have H2 := Lib.hid h2
                clear h2
                go_wp2_with (first
                  | (go_at_call 20; first
                      | ((with_reducible refine (FP.out _ S0.out).mono ?_); rintro e w4 ⟨rfl, S1⟩)
                      | ((with_reducible refine (FQ.out _ S1.out).mono ?_); rintro e w5 ⟨rfl, S2⟩)
                      | fail)
                  | (go_at_call 15; first
                      | ((with_reducible refine (DP.out _ S2.out).mono ?_); rintro e w6 ⟨A6, c6, rfl, S3⟩)
                      | ((with_reducible refine (DQ.out _ _ S3.out).mono ?_); rintro e w7 ⟨A7, c7, rfl, S4⟩)
                      | fail)
                  | (go_at_call 23; (with_reducible refine (S4.out _).mono ?_); rintro e w8 ⟨rfl, S5⟩)
                  | (go_at_call 13; (with_reducible refine (LP.out _ S5.out).mono ?_); rintro e w9 ⟨rfl, rfl⟩))
                have FA := Lib.hid (FF.out _ H2.out S5.out)
                clear FF FP FQ DP DQ LP S4
                go_wp2_with (first
                        | (go_at_call 18; first
                            | ((with_reducible refine FB.out.mono ?_); rintro e wb ⟨A9, c9, rfl, FC⟩)
                            | ((with_reducible refine FA.out.mono ?_); rintro e wa ⟨A8, c8, rfl, FB⟩)
                            | fail)
                        | (go_at_call 23; (with_reducible refine FC.out.mono ?_); rintro e wc ⟨rfl, bc⟩)
                        | (go_at_call 16; (with_reducible refine (AL.out _).mono ?_); rintro e wd ⟨rfl, bd⟩))
                go_ret
                exact ⟨rfl, bc.out.trans (bd.out.mono bc.out.size)⟩
              · have qz : ((m2 : Int) == 0) = false := by simp [h2]
                have H2 := Lib.hid h2
                clear h2
                go_wp2_with (first
                  | (go_at_call 20; first
                      | ((with_reducible refine (FP.out _ S0.out).mono ?_); rintro e w4 ⟨rfl, S1⟩)
                      | ((with_reducible refine (FQ.out _ S1.out).mono ?_); rintro e w5 ⟨rfl, S2⟩)
                      | fail)
                  | (go_at_call 15; first
                      | ((with_reducible refine (DP.out _ S2.out).mono ?_); rintro e w6 ⟨A6, c6, rfl, S3⟩)
                      | ((with_reducible refine (DQ.out _ _ S3.out).mono ?_); rintro e w7 ⟨A7, c7, rfl, S4⟩)
                      | fail)
                  | (go_at_call 23; (with_reducible refine (S4.out _).mono ?_); rintro e w8 ⟨rfl, S5⟩)
                  | (go_at_call 13; (with_reducible refine (LP.out _ S5.out).mono ?_); rintro e w9 ⟨rfl, rfl⟩))
                go_roundw
                case rel => exact ⟨k + 1, X2, by omega, by go_num, S5, Or.inr (HX2.out H2.out)⟩
                case measure => simp [intOf]; omega
            · obtain rfl : k = m := by omega
              obtain ⟨m2, hm2⟩ : ∃ m2, X.length = m2 := ⟨_, rfl⟩
              have FA := Lib.hid (S0.out.all2 hm2 (by omega))
              clear S0 hX hlen hm2
              go_wp2_with (first
                | (go_at_call 18; first
                    | ((with_reducible refine FB.out.mono ?_); rintro e wb ⟨A9, c9, rfl, FC⟩)
                    | ((with_reducible refine FA.out.mono ?_); rintro e wa ⟨A8, c8, rfl, FB⟩)
                    | fail)
                | (go_at_call 23; (with_reducible refine FC.out.mono ?_); rintro e wc ⟨rfl, bc⟩)
                | (go_at_call 16; (with_reducible refine (AL.out _).mono ?_); rintro e wd ⟨rfl, bd⟩))
              go_ret
              exact ⟨rfl, bc.out.trans (bd.out.mono bc.out.size)⟩
end Go.Proofs.Ytiaonfmdjipekaa.Ls
