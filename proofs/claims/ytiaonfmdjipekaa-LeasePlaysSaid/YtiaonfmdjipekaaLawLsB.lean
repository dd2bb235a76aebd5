/- Law: LeaseGone. Conditions: none. -/
import Derived.Test.YtiaonfmdjipekaaLawLsA
import Derived.Test.YtiaonfmdjipekaaLsDoes
set_option linter.unusedVariables false
namespace Go.Proofs.Ytiaonfmdjipekaa.Ls
open Go.RowKit Go.Maps
theorem new_run (w : World) (acts : List AV) : Calls Try.prog 9 #[] w fun e w' => ∃ q, e = .returned (.pointer (some ⟨q, 0, none⟩)) ∧ Hid (RunSt w q acts 0 w') :=
  (new_any w (fun b => b < w.heap.size) (fun k h => h)).mono fun e w' ⟨h1, h2, h3⟩ => ⟨_, h1, h2.out, h3.out⟩
theorem remP_len {L : List Pr} {x : Int} (hn : (ids L).Nodup) (h : x ∈ ids L) : (remP x L).length + 1 = L.length := by
  obtain ⟨p, hp, rfl⟩ := List.mem_map.1 h
  have := (remP_perm (x := p.1) (t := p.2) hn hp).length_eq
  simp at this
  omega
theorem not_due {L : List Pr} {x now : Int} (h : x ∉ ids L) : x ∉ dueL L now ∧ x ∉ ids (dueN L now) := by
  refine ⟨fun hm => h ?_, fun hm => h ?_⟩
  · obtain ⟨p, hp, rfl⟩ := List.mem_map.1 hm
    exact List.mem_map.2 ⟨p, (List.takeWhile_sublist _).mem hp, rfl⟩
  · obtain ⟨p, hp, rfl⟩ := List.mem_map.1 hm
    exact List.mem_map.2 ⟨p, (List.dropWhile_sublist _).mem hp, rfl⟩
/-- what the queue tells of a number, and of its being dropped -/
theorem gone_cases {L : List Pr} (hn : (ids L).Nodup) (x : Int) : (dropC L x = 0 ∧ hasV L x = true ∧ (remP x L).length + 1 = L.length) ∨ (dropC L x = 6 ∧ hasV L x = false ∧ (remP x L).length = L.length) := by
  by_cases hm : x ∈ ids L
  · left
    refine ⟨if_pos hm, ?_, remP_len hn hm⟩
    unfold hasV
    cases h : tilOf L x with
    | none => exact absurd hm (tilOf_none.1 h)
    | some t => rfl
  · right
    refine ⟨if_neg hm, ?_, by rw [remP_none hm]⟩
    unfold hasV
    rw [tilOf_none.2 hm]
    rfl
set_option maxRecDepth 100000 in
set_option maxHeartbeats 3200000 in
theorem law_LeaseGone (w : World) (x : ActsArg) (g : ActsIn w x.A x.cap x.l) (id : Int) (hid : -9223372036854775808 ≤ id ∧ id ≤ 9223372036854775807) (now : Int) (hnow : -9223372036854775808 ≤ now ∧ now ≤ 9223372036854775807) :
    Calls Try.prog 3 #[.slice x.A x.l.length x.cap, .int .i64 id, .int .i64 now] w (LawPost w) := by
  obtain ⟨A, cap, l⟩ := x
  simp only at g ⊢
  have AL := Lib.hid (fun V => alive_any V)
  have NW := Lib.hid (new_run w l)
  have SH := Lib.hid (fun V => short_any A l.length cap V g.cap_)
  have G := Lib.hid g
  have WX : Hid (wf64 id ∧ wf64 now) := ⟨⟨by omega, by omega⟩, ⟨by omega, by omega⟩⟩
  obtain ⟨n, hn⟩ : ∃ n, n = min l.length 300 := ⟨_, rfl⟩
  rw [← hn] at SH
  have HN := Lib.hid hn
  have hn3 : n ≤ 300 := by omega
  have NL : Hid (n ≤ l.length) := by show _ ≤ _; omega
  clear g hid hnow hn
  have NLL : Hid (n ≤ l.length) := NL
  obtain ⟨ln, hln⟩ : ∃ ln, ln = l.length := ⟨_, rfl⟩
  rw [← hln] at SH ⊢
  clear hln NL
  go_enter Try.func3, Try.ntmps3
  go_wp2_with (first
    | (go_at_call 9; (with_reducible refine NW.out.mono ?_); rintro e w1 ⟨q, rfl, R1⟩)
    | (go_at_call 10; (with_reducible refine (SH.out _).mono ?_); rintro e w2 ⟨rfl, rfl⟩))
  go_loopw [22] (fun v wr => ∃ k : Nat, k ≤ n ∧ v = .int .i64 (k : Nat) ∧ Hid (RunSt w q l k wr)) (fun v _ => n - (intOf v).toNat)
  case atStart => exact ⟨0, Nat.zero_le _, rfl, R1⟩
  case round =>
    clear R1 NW SH
    obtain ⟨k, hk, rfl, RK⟩ := hrel
    by_cases hlt : k < n
    · have hkl : k < l.length := Nat.lt_of_lt_of_le hlt NLL.out
      obtain ⟨b, off, hA, hbl, hc0, hc1, hc2⟩ := (G.out.below RK.out.bel).at_ k hkl
      have hok : (l.getD k av0).ok := G.out.ok _ (by rw [List.getD_eq_getElem?_getD, List.getElem?_eq_getElem hkl]; exact List.getElem_mem hkl)
      have DO := Lib.hid (fun V hV => RK.out.does hkl (by omega) hok V hV)
      generalize l.getD k av0 = a at hc0 hc1 hc2 DO
      obtain ⟨ak, ai, at_⟩ := a
      unfold AV.val at DO
      simp only at hc0 hc1 hc2 DO
      have HR0 := Lib.hid (Kept.first wr 27 #[.int .u8 0, .int .i64 0, .int .i64 0])
      have HR1 := Lib.hid (HR0.out.set #[.int .u8 ak, .int .i64 ai, .int .i64 at_])
      have r0 := HR1.out.cell 0
      have r1 := HR1.out.cell 1
      have r2 := HR1.out.cell 2
      subst hA
      have hkI : (k : Int) < (n : Int) := by omega
      clear hok
      go_wp2_with (refine wpList_store_row rfl 27 _ _ rfl wr.heap.size #[.int .u8 ak, .int .i64 ai, .int .i64 at_] rfl rfl 27 _ HR0.out.1 (by kernel_rfl) rfl (av_one _ _ _) ?_)
      generalize ((wr.alloc _).setRow _ _) = wq at HR1 r0 r1 r2 ⊢
      refine (DO.out wq HR1.out.2).mono ?_
      rintro e w3 ⟨v, c, rfl, R3⟩
      clear r0 r1 r2 HR1 HR0
      go_wp2_with fail
      go_roundw
      case rel => exact ⟨k + 1, by omega, by go_num, R3⟩
      case measure => simp [intOf]; omega
    · obtain rfl : k = n := by omega
      obtain ⟨L, hL⟩ : ∃ L, L = runL l k := ⟨_, rfl⟩
      have QK := RK.out.que
      rw [← hL] at QK
      have st := QK.state
      have HB := Lib.hid RK.out.bel
      have UN := Lib.hid (until_any wr _ q L k QK id WX.out.1)
      have LN1 := Lib.hid (qlen_any wr _ q L k QK)
      have DR := Lib.hid (drop_any wr _ q L k QK id WX.out.1)
      have hlen := st.2.2.1
      have LN2 : Hid (∀ V, Que V (fun b => b < w.heap.size) q (remP id L) k → Calls Try.prog 13 #[.pointer (some ⟨q, 0, none⟩)] V fun e w' => e = .returned (.int .i64 ((remP id L).length : Nat)) ∧ V = w') := fun V hV => qlen_any V _ q _ k hV
      have DU : Hid (∀ V, Que V (fun b => b < w.heap.size) q (remP id L) k → Calls Try.prog 15 #[.pointer (some ⟨q, 0, none⟩), .int .i64 now] V fun e w' => ∃ A' c', e = .returned (.slice A' (dueL (remP id L) now).length c') ∧ Hid (IntsAt w' A' (dueL (remP id L) now)) ∧ Hid (DueSt V (fun b => b < w.heap.size) q k (.slice A' (dueL (remP id L) now).length c') (dueL (remP id L) now) (dueN (remP id L) now) w')) := fun V hV => by
        refine (due_any V _ q _ k hV now WX.out.2).mono ?_
        rintro e w' ⟨v, rfl, S⟩
        obtain ⟨A', c', h1, h2, h3⟩ := RowI.open_ (l := dueL (remP id L) now) S.out.row
        subst h1
        exact ⟨A', c', rfl, h2, S⟩
      have DR2 : Hid (∀ V B, Que V B q (dueN (remP id L) now) k → Calls Try.prog 14 #[.pointer (some ⟨q, 0, none⟩), .int .i64 id] V fun e w' => e = .returned (.int .i64 6) ∧ Hid (Keep B V w')) := fun V B hV => by
        refine (drop_any V B q _ k hV id WX.out.1).mono fun e w' ⟨h1, h2, h3⟩ => ⟨h1.trans ?_, h3⟩
        unfold dropC
        rw [if_neg (not_due (remP_not L id)).2]
      have ND : Hid (∀ j, j < (dueL (remP id L) now).length → (dueL (remP id L) now).getD j 0 ≠ id) := fun j hj e => by
        have hm : (dueL (remP id L) now).getD j 0 ∈ dueL (remP id L) now := by rw [List.getD_eq_getElem?_getD, List.getElem?_eq_getElem hj]; exact List.getElem_mem hj
        rw [e] at hm
        exact (not_due (now := now) (remP_not L id)).1 hm
      have HC := gone_cases st.2.1 id
      have HDL : Hid ((dueL (remP id L) now).length ≤ 1024) := by
        show _ ≤ _
        unfold dueL
        have h1 := (List.takeWhile_sublist (fun a : Pr => decide (a.2 ≤ now)) (l := remP id L)).length_le
        have h2 : (remP id L).length ≤ L.length := by rcases HC with ⟨_, _, h⟩ | ⟨_, _, h⟩ <;> omega
        unfold ids
        rw [List.length_map]
        omega
      clear RK QK st hL
      generalize dueN (remP id L) now = Lx at DU DR2
      generalize dueL (remP id L) now = ys at DU ND HDL
      generalize remP id L = L2 at DU DR LN2 HC
      generalize dropC L id = dc at DR HC
      generalize hasV L id = hv at UN HC
      generalize tilV L id = tv at UN
      generalize L.length = n1 at LN1 HC hlen
      obtain ⟨n2, hn2⟩ : ∃ n2, n2 = L2.length := ⟨_, rfl⟩
      rw [← hn2] at LN2 HC
      clear hn2
      obtain ⟨yn, hyn⟩ : ∃ yn, yn = ys.length := ⟨_, rfl⟩
      have HYN := Lib.hid hyn
      rw [← hyn] at DU HDL
      have hyl := HDL.out
      clear hyn
      rcases HC with ⟨rfl, rfl, hnn⟩ | ⟨rfl, rfl, hnn⟩
      · subst hnn
        have q1 : ((n2 : Int) != ((n2 + 1 : Nat) : Int) - 1) = false := by simp
        have q2 : ((n2 : Int) == ((n2 + 1 : Nat) : Int) - 1) = true := by simp
        go_wp2_with (first
          | (go_at_call 12; (with_reducible refine UN.out.mono ?_); rintro e w1 ⟨rfl, rfl⟩)
          | (go_at_call 14; (with_reducible refine DR.out.mono ?_); rintro e w4 ⟨rfl, Q4, K4⟩)
          | (go_at_call 13; first
              | ((with_reducible refine (LN2.out _ Q4.out).mono ?_); rintro e w1 ⟨rfl, rfl⟩)
              | ((with_reducible refine LN1.out.mono ?_); rintro e w1 ⟨rfl, rfl⟩)
              | fail)
          | (go_at_call 15; (with_reducible refine (DU.out _ Q4.out).mono ?_); rintro e w5 ⟨A', c', rfl, I5, S5⟩))
        go_loopw [77] (fun v wq => ∃ m : Nat, m ≤ yn ∧ v = .int .i64 (m : Nat) ∧ Hid (Below w5.heap.size w5 wq)) (fun v _ => yn - (intOf v).toNat)
        case atStart => exact ⟨0, Nat.zero_le _, rfl, Below.refl _ _⟩
        case round =>
          obtain ⟨m, hm, rfl, BQ⟩ := hrel
          by_cases hlt : m < yn
          · obtain ⟨b, hA, hbl, hc0⟩ := (I5.out.below BQ.out).get m (by rw [← HYN.out]; exact hlt)
            have hne := ND.out m (by rw [← HYN.out]; exact hlt)
            generalize ys.getD m 0 = y at hc0 hne
            have hq : (y == id) = false := by simpa using hne
            subst hA
            have hmI : (m : Int) < (yn : Int) := by omega
            clear hne
            go_wp2_with fail
            go_roundw
            case rel => exact ⟨m + 1, by omega, by go_num, BQ⟩
            case measure => simp [intOf]; omega
          · obtain rfl : m = yn := by omega
            have D2 := Lib.hid (DR2.out wr _ (S5.out.below BQ.out).que)
            have HBX : Hid (Below w.heap.size w wr) := by
              have h1 := HB.out.trans (keep_below K4.out HB.out.size)
              have h2 := h1.trans (keep_below S5.out.keep h1.size)
              exact h2.trans (BQ.out.mono h2.size)
            clear S5
            go_wp2_with (first
              | (go_at_call 14; (with_reducible refine D2.out.mono ?_); rintro e w6 ⟨rfl, K6⟩)
              | (go_at_call 16; (with_reducible refine (AL.out _).mono ?_); rintro e w7 ⟨rfl, b7⟩))
            go_ret
            have h3 := HBX.out.trans (K6.out.below HBX.out.size (fun k hk => Nat.le_of_not_lt fun h => hk (Or.inl h)))
            exact ⟨rfl, h3.trans (b7.out.mono h3.size)⟩
      · have q1 : ((n2 : Int) != (n2 : Int)) = false := by simp
        have q2 : ((n2 : Int) == (n2 : Int)) = true := by simp
        subst hnn
        go_wp2_with (first
          | (go_at_call 12; (with_reducible refine UN.out.mono ?_); rintro e w1 ⟨rfl, rfl⟩)
          | (go_at_call 14; (with_reducible refine DR.out.mono ?_); rintro e w4 ⟨rfl, Q4, K4⟩)
          | (go_at_call 13; first
              | ((with_reducible refine (LN2.out _ Q4.out).mono ?_); rintro e w1 ⟨rfl, rfl⟩)
              | ((with_reducible refine LN1.out.mono ?_); rintro e w1 ⟨rfl, rfl⟩)
              | fail)
          | (go_at_call 15; (with_reducible refine (DU.out _ Q4.out).mono ?_); rintro e w5 ⟨A', c', rfl, I5, S5⟩))
        go_loopw [77] (fun v wq => ∃ m : Nat, m ≤ yn ∧ v = .int .i64 (m : Nat) ∧ Hid (Below w5.heap.size w5 wq)) (fun v _ => yn - (intOf v).toNat)
        case atStart => exact ⟨0, Nat.zero_le _, rfl, Below.refl _ _⟩
        case round =>
          obtain ⟨m, hm, rfl, BQ⟩ := hrel
          by_cases hlt : m < yn
          · obtain ⟨b, hA, hbl, hc0⟩ := (I5.out.below BQ.out).get m (by rw [← HYN.out]; exact hlt)
            have hne := ND.out m (by rw [← HYN.out]; exact hlt)
            generalize ys.getD m 0 = y at hc0 hne
            have hq : (y == id) = false := by simpa using hne
            subst hA
            have hmI : (m : Int) < (yn : Int) := by omega
            clear hne
            go_wp2_with fail
            go_roundw
            case rel => exact ⟨m + 1, by omega, by go_num, BQ⟩
            case measure => simp [intOf]; omega
          · obtain rfl : m = yn := by omega
            have D2 := Lib.hid (DR2.out wr _ (S5.out.below BQ.out).que)
            have HBX : Hid (Below w.heap.size w wr) := by
              have h1 := HB.out.trans (keep_below K4.out HB.out.size)
              have h2 := h1.trans (keep_below S5.out.keep h1.size)
              exact h2.trans (BQ.out.mono h2.size)
            clear S5
            go_wp2_with (first
              | (go_at_call 14; (with_reducible refine D2.out.mono ?_); rintro e w6 ⟨rfl, K6⟩)
              | (go_at_call 16; (with_reducible refine (AL.out _).mono ?_); rintro e w7 ⟨rfl, b7⟩))
            go_ret
            have h3 := HBX.out.trans (K6.out.below HBX.out.size (fun k hk => Nat.le_of_not_lt fun h => hk (Or.inl h)))
            exact ⟨rfl, h3.trans (b7.out.mono h3.size)⟩
end Go.Proofs.Ytiaonfmdjipekaa.Ls
