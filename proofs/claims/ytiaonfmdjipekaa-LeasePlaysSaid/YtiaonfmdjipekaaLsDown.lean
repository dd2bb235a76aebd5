/- Walk: container/heap's down over a queue's pile. Conditions: as XLsPile. -/
import Derived.Test.YtiaonfmdjipekaaLsUp
set_option linter.unusedVariables false
namespace Go.Proofs.Ytiaonfmdjipekaa.Ls
open Go.RowKit
def downH (h : List Ent) (k n : Nat) (R : List Ent × Nat) : Prop := ∃ f, n - k < f ∧ downL f h k n = R
theorem downH.end {h : List Ent} {k n : Nat} {R : List Ent × Nat} (u : downH h k n R) (h1 : n ≤ 2 * k + 1) : R = (h, k) := by
  obtain ⟨f, hf, rfl⟩ := u
  obtain ⟨f, rfl⟩ : ∃ m, f = m + 1 := ⟨f - 1, by omega⟩
  unfold downL
  rw [if_neg (by omega)]
theorem downH.stop {h : List Ent} {k n c : Nat} {R : List Ent × Nat} (u : downH h k n R) (h1 : 2 * k + 1 < n) (hc : childL h k n = c) (hs : lessE (h.getD c ent0) (h.getD k ent0) = false) : R = (h, k) := by
  obtain ⟨f, hf, rfl⟩ := u
  obtain ⟨f, rfl⟩ : ∃ m, f = m + 1 := ⟨f - 1, by omega⟩
  unfold downL
  rw [if_pos h1, hc, if_neg (by rw [hs]; simp)]
theorem downH.go {h : List Ent} {k n c : Nat} {R : List Ent × Nat} (u : downH h k n R) (h1 : 2 * k + 1 < n) (hc : childL h k n = c) (hs : lessE (h.getD c ent0) (h.getD k ent0) = true) : downH (swapL h k c) c n R := by
  have := childL_lt (l := h) h1
  rw [hc] at this
  obtain ⟨f, hf, rfl⟩ := u
  obtain ⟨f, rfl⟩ : ∃ m, f = m + 1 := ⟨f - 1, by omega⟩
  refine ⟨f, by omega, ?_⟩
  conv => rhs; unfold downL
  rw [if_pos h1, hc, if_pos hs]
theorem less_q (B : Nat → Prop) (q : Nat) (A : Option Addr) (c : Nat) (h : List Ent) (D : Nat) (i j : Nat) (hi : i < h.length) (hj : j < h.length) (V : World) (P : QP V B q A c h D) :
    Calls Try.prog 82 #[.slice A h.length c, .int .i64 (i : Nat), .int .i64 (j : Nat)] V fun e w' => e = .returned (.bool (lessE (h.getD i ent0) (h.getD j ent0))) ∧ Hid (QP w' B q A c h D) ∧ Hid (Turn (Own B D) V w') ∧ (method 231 66 (.pointer (some ⟨q, 0, none⟩)) "Less").run Try.prog w' = .ok (82, .slice A h.length c) w' ∧ (method 231 66 (.pointer (some ⟨q, 0, none⟩)) "Swap").run Try.prog w' = .ok (83, .slice A h.length c) w' :=
  (less_any V B A c h P.pile i j hi hj).mono fun e w' ⟨h1, h2⟩ => ⟨h1, P.below h2, Turn.of_below h2, meth_less _ w' _ (P.below h2).c0, meth_swap _ w' _ (P.below h2).c0⟩
theorem swap_q (B : Nat → Prop) (q : Nat) (A : Option Addr) (c : Nat) (h : List Ent) (D : Nat) (i j : Nat) (hi : i < h.length) (hj : j < h.length) (hij : i ≠ j) (V : World) (P : QP V B q A c h D) :
    Calls Try.prog 83 #[.slice A h.length c, .int .i64 (i : Nat), .int .i64 (j : Nat)] V fun e w' => e = .returned (.tuple #[]) ∧ Hid (QP w' B q A c (swapL h i j) D) ∧ Hid (Turn (Own B D) V w') :=
  (swap_any V B A c h P.pile i j hi hj hij).mono fun e w' ⟨h1, h2, h3⟩ => ⟨h1, (P.swapped (swapL_len _ _ _) h2 h3).1, (P.swapped (swapL_len _ _ _) h2 h3).2⟩
set_option maxRecDepth 100000 in
set_option maxHeartbeats 6400000 in
theorem down_any (w : World) (B : Nat → Prop) (q : Nat) (A : Option Addr) (c : Nat) (h : List Ent) (D : Nat) (P : QP w B q A c h D) (i0 n : Nat) (hj : i0 < h.length) (hn : n ≤ h.length) (hL : h.length ≤ 4096) :
    Calls Try.prog 36 #[.iface 66 (.pointer (some ⟨q, 0, none⟩)), .int .i64 (i0 : Nat), .int .i64 (n : Nat)] w fun e w' => e = .returned (.bool (decide (i0 < (downL (n + 1) h i0 n).2))) ∧ QP w' B q A c (downL (n + 1) h i0 n).1 D ∧ Turn (Own B D) w w' := by
  have U0 : Hid (downH h i0 n (downL (n + 1) h i0 n)) := ⟨n + 1, by omega, rfl⟩
  have P0 := Lib.hid P
  generalize downL (n + 1) h i0 n = R at U0 ⊢
  have hi0 : i0 < 4096 := by omega
  have hn0 : n ≤ 4096 := by omega
  clear P
  go_enter Try.func36, Try.ntmps36
  go_wp2_with fail
  go_loopg [7, 8, 9, 10] n (fun g v7 v8 v9 v10 wr => ∃ (k : Nat) (hh : List Ent), v7 = .int .i64 (k : Nat) ∧ n - k ≤ g ∧ k < hh.length ∧ n ≤ hh.length ∧ hh.length ≤ 4096 ∧ Hid (QP wr B q A c hh D) ∧ Hid (Turn (Own B D) w wr) ∧ Hid (downH hh k n R))
  case atStart => exact ⟨i0, h, rfl, by omega, hj, hn, hL, P0, Turn.refl _ _, U0⟩
  case round =>
    clear P0 U0 hj hL hn
    obtain ⟨k, hh, rfl, hkg, hkl, hnl, hL, PK, TK, UK⟩ := hrel
    have hk4 : k < 4096 := by omega
    obtain ⟨j1, hj1⟩ : ∃ j1, j1 = 2 * k + 1 := ⟨_, rfl⟩
    have w1 : IntKind.i64.wrap (2 * (k : Int)) = 2 * (k : Int) := by rw [IntKind.wrap_i64]; omega
    have w2 : IntKind.i64.wrap (2 * (k : Int) + 1) = (j1 : Int) := by rw [IntKind.wrap_i64]; omega
    by_cases h1 : j1 < n
    · have ml := meth_less _ wr _ PK.out.c0
      have d1 : decide ((n : Int) ≤ (j1 : Int)) = false := by simp; omega
      have e1 : ((j1 + 1 : Nat) : Int) = (j1 : Int) + 1 := by omega
      by_cases h2 : j1 + 1 < n
      · have d2 : ((j1 : Int) + 1 < (n : Int)) = True := by simp; omega
        have HC0 : childL hh k n = if lessE (hh.getD (j1 + 1) ent0) (hh.getD j1 ent0) = true then (j1 + 1) else j1 := by
          unfold childL
          rw [show 2 * k + 2 = (j1 + 1) by omega, show 2 * k + 1 = j1 by omega]
          simp [h2]
        have LJ := Lib.hid (fun V => less_q B q A c hh D (j1 + 1) j1 (by omega) (by omega) V)
        obtain ⟨b1, hb1⟩ : ∃ b, b = lessE (hh.getD (j1 + 1) ent0) (hh.getD j1 ent0) := ⟨_, rfl⟩
        rw [← hb1, e1] at LJ
        rw [← hb1] at HC0
        clear hb1
        cases b1 with
        | true =>
          have HC : Hid (childL hh k n = (j1 + 1)) := by show _ = _; rw [HC0]; rfl
          clear HC0
          have ST := UK.out.stop (by omega) HC.out
          have GO := UK.out.go (by omega) HC.out
          have hcl : (j1 + 1) < hh.length := by omega
          have hkc : k ≠ (j1 + 1) := by omega
          have LK := Lib.hid (fun V => less_q B q A c hh D (j1 + 1) k hcl hkl V)
          have SW := Lib.hid (fun V => swap_q B q A c hh D k (j1 + 1) hkl hcl hkc V)
          obtain ⟨b, hb⟩ : ∃ b, b = lessE (hh.getD (j1 + 1) ent0) (hh.getD k ent0) := ⟨_, rfl⟩
          rw [← hb] at ST GO
          rw [← hb, e1] at LK
          rw [e1] at SW
          clear e1
          clear hb
          have STH := Lib.hid ST
          have GOH := Lib.hid GO
          clear ST GO UK
          generalize hlen : hh.length = m at hkl hnl hL hcl LK SW ml LJ
          have HLEN := Lib.hid hlen
          have HCK : Hid (n - (j1 + 1) < gk) := by unfold Hid; omega
          clear hlen hkc
          have HJ := Lib.hid hj1
          clear hj1
          cases b with
          | false =>
            obtain rfl : R = (hh, k) := STH.out rfl
            clear STH GOH SW
            go_wp2_with (first | (go_at_call 82; (with_reducible refine (LJ.out _ PK.out).mono ?_); rintro e wa ⟨rfl, P1, T1, ml1, ms1⟩) | (go_at_call 82; (with_reducible refine (LK.out _ P1.out).mono ?_); rintro e wb ⟨rfl, P2, T2, ml2, ms2⟩))
            go_ret
            exact ⟨rfl, P2.out, ((TK.out).trans T1.out).trans T2.out⟩
          | true =>
            have U2 := Lib.hid (GOH.out rfl)
            clear STH GOH
            go_wp2_with (first | (go_at_call 82; (with_reducible refine (LJ.out _ PK.out).mono ?_); rintro e wa ⟨rfl, P1, T1, ml1, ms1⟩) | (go_at_call 82; (with_reducible refine (LK.out _ P1.out).mono ?_); rintro e wb ⟨rfl, P2, T2, ml2, ms2⟩) | (go_at_call 83; (with_reducible refine (SW.out _ P2.out).mono ?_); rintro e wc ⟨rfl, P3, T3⟩))
            go_roundg (n - (j1 + 1))
            case rel => exact ⟨(j1 + 1), _, rfl, Nat.le_refl _, by rw [swapL_len, HLEN.out]; exact hcl, by rw [swapL_len, HLEN.out]; exact hnl, by rw [swapL_len, HLEN.out]; exact hL, P3, (((TK.out).trans T1.out).trans T2.out).trans T3.out, U2⟩
            all_goals exact HCK.out
        | false =>
          have HC : Hid (childL hh k n = j1) := by show _ = _; rw [HC0]; rfl
          clear HC0
          have ST := UK.out.stop (by omega) HC.out
          have GO := UK.out.go (by omega) HC.out
          have hcl : j1 < hh.length := by omega
          have hkc : k ≠ j1 := by omega
          have LK := Lib.hid (fun V => less_q B q A c hh D j1 k hcl hkl V)
          have SW := Lib.hid (fun V => swap_q B q A c hh D k j1 hkl hcl hkc V)
          obtain ⟨b, hb⟩ : ∃ b, b = lessE (hh.getD j1 ent0) (hh.getD k ent0) := ⟨_, rfl⟩
          rw [← hb] at LK ST GO
          clear hb
          have STH := Lib.hid ST
          have GOH := Lib.hid GO
          clear ST GO UK
          generalize hlen : hh.length = m at hkl hnl hL hcl LK SW ml LJ
          have HLEN := Lib.hid hlen
          have HCK : Hid (n - j1 < gk) := by unfold Hid; omega
          clear hlen hkc
          have HJ := Lib.hid hj1
          clear hj1
          cases b with
          | false =>
            obtain rfl : R = (hh, k) := STH.out rfl
            clear STH GOH SW
            go_wp2_with (first | (go_at_call 82; (with_reducible refine (LJ.out _ PK.out).mono ?_); rintro e wa ⟨rfl, P1, T1, ml1, ms1⟩) | (go_at_call 82; (with_reducible refine (LK.out _ P1.out).mono ?_); rintro e wb ⟨rfl, P2, T2, ml2, ms2⟩))
            go_ret
            exact ⟨rfl, P2.out, ((TK.out).trans T1.out).trans T2.out⟩
          | true =>
            have U2 := Lib.hid (GOH.out rfl)
            clear STH GOH
            go_wp2_with (first | (go_at_call 82; (with_reducible refine (LJ.out _ PK.out).mono ?_); rintro e wa ⟨rfl, P1, T1, ml1, ms1⟩) | (go_at_call 82; (with_reducible refine (LK.out _ P1.out).mono ?_); rintro e wb ⟨rfl, P2, T2, ml2, ms2⟩) | (go_at_call 83; (with_reducible refine (SW.out _ P2.out).mono ?_); rintro e wc ⟨rfl, P3, T3⟩))
            go_roundg (n - j1)
            case rel => exact ⟨j1, _, rfl, Nat.le_refl _, by rw [swapL_len, HLEN.out]; exact hcl, by rw [swapL_len, HLEN.out]; exact hnl, by rw [swapL_len, HLEN.out]; exact hL, P3, (((TK.out).trans T1.out).trans T2.out).trans T3.out, U2⟩
            all_goals exact HCK.out
      · have d2 : ((j1 : Int) + 1 < (n : Int)) = False := by simp; omega
        have HC : Hid (childL hh k n = j1) := by
          show _ = _
          unfold childL
          rw [if_neg (by omega)]
          exact hj1.symm
        have ST := UK.out.stop (by omega) HC.out
        have GO := UK.out.go (by omega) HC.out
        have hcl : j1 < hh.length := by omega
        have hkc : k ≠ j1 := by omega
        have LK := Lib.hid (fun V => less_q B q A c hh D j1 k hcl hkl V)
        have SW := Lib.hid (fun V => swap_q B q A c hh D k j1 hkl hcl hkc V)
        obtain ⟨b, hb⟩ : ∃ b, b = lessE (hh.getD j1 ent0) (hh.getD k ent0) := ⟨_, rfl⟩
        rw [← hb] at LK ST GO
        clear hb
        have STH := Lib.hid ST
        have GOH := Lib.hid GO
        clear ST GO UK
        generalize hlen : hh.length = m at hkl hnl hL hcl LK SW ml 
        have HLEN := Lib.hid hlen
        have HCK : Hid (n - j1 < gk) := by unfold Hid; omega
        clear hlen hkc
        have HJ := Lib.hid hj1
        clear hj1
        cases b with
        | false =>
          obtain rfl : R = (hh, k) := STH.out rfl
          clear STH GOH SW
          go_wp2_with (first | (go_at_call 82; (with_reducible refine (LK.out _ PK.out).mono ?_); rintro e wb ⟨rfl, P2, T2, ml2, ms2⟩))
          go_ret
          exact ⟨rfl, P2.out, TK.out.trans T2.out⟩
        | true =>
          have U2 := Lib.hid (GOH.out rfl)
          clear STH GOH
          go_wp2_with (first | (go_at_call 82; (with_reducible refine (LK.out _ PK.out).mono ?_); rintro e wb ⟨rfl, P2, T2, ml2, ms2⟩) | (go_at_call 83; (with_reducible refine (SW.out _ P2.out).mono ?_); rintro e wc ⟨rfl, P3, T3⟩))
          go_roundg (n - j1)
          case rel => exact ⟨j1, _, rfl, Nat.le_refl _, by rw [swapL_len, HLEN.out]; exact hcl, by rw [swapL_len, HLEN.out]; exact hnl, by rw [swapL_len, HLEN.out]; exact hL, P3, (TK.out.trans T2.out).trans T3.out, U2⟩
          all_goals exact HCK.out
    · obtain rfl : R = (hh, k) := UK.out.end (by omega)
      have d1 : decide ((n : Int) ≤ (j1 : Int)) = true := by simp; omega
      have HJ := Lib.hid hj1
      clear hj1 UK
      go_wp2_with fail
      go_ret
      exact ⟨rfl, PK.out, TK.out⟩
end Go.Proofs.Ytiaonfmdjipekaa.Ls
