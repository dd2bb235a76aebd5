/- Walks: the law's probe 'alive'. Conditions: none. -/
import Derived.Test.YtiaonfmdjipekaaLsInts
set_option linter.unusedVariables false
namespace Go.Proofs.Ytiaonfmdjipekaa.Ls
open Go.RowKit Go.Maps
theorem RowI.below {w w' : World} {v : Value} {l : List Int} (h : RowI w v l) (hb : Below w.heap.size w w') : RowI w' v l := ownB h hb
theorem lit_row (w : World) (l : List Int) (n : Nat) (hn : n = l.length) : IntsAt (w.alloc (.cells (intVs l).toArray 3)) (some ⟨w.heap.size, 0, none⟩) l :=
  ⟨fun i hi => ⟨_, rfl, by simp, by
    rw [bcell (heap_new w _ _)]
    simp [intVs, List.getD_eq_getElem?_getD, hi]⟩⟩
set_option maxRecDepth 100000 in
set_option maxHeartbeats 3200000 in
theorem alive_any (w : World) : Calls Try.prog 16 #[] w fun e w' => e = .returned (.bool true) ∧ Hid (Below w.heap.size w w') := by
  obtain ⟨B, hB⟩ : ∃ B : Nat → Prop, B = fun k => k < w.heap.size := ⟨_, rfl⟩
  have HB : Hid (∀ w', Keep B w w' → Below w.heap.size w w') := fun w' h => h.below (Nat.le_refl _) (by rw [hB]; intro k hk; omega)
  have NW : Hid (Calls Try.prog 9 #[] w fun e w' => ∃ q, e = .returned (.pointer (some ⟨q, 0, none⟩)) ∧ Hid (Que w' B q [] 0) ∧ Hid (Keep B w w')) :=
    (new_any w B (by rw [hB]; exact fun k h => h)).mono fun e w' ⟨h1, h2, h3⟩ => ⟨_, h1, h2, Turn.of_below h3.out⟩
  have PT : ∀ (q : Nat) (L : List Pr) (N : Nat) (V : World) (x t : Int) (R : List Pr), Que V B q L N → Keep B w V → N < 1000 → wf64 x → wf64 t → putR L x t = R → putC L x = 0 → Calls Try.prog 17 #[.pointer (some ⟨q, 0, none⟩), .int .i64 x, .int .i64 t] V fun e w' => e = .returned (.int .i64 0) ∧ Hid (Que w' B q R (N + 1)) ∧ Hid (Keep B w w') := fun q L N V x t R hQ hK hN hx ht hR hC =>
    (put_any V B q L N hQ (by omega) x t hx ht).mono fun e w' ⟨h1, h2, h3⟩ => ⟨by rw [h1, hC], by rw [← hR]; exact h2, hK.trans h3.out⟩
  have wf : wf64 1 ∧ wf64 2 ∧ wf64 3 ∧ wf64 5 ∧ wf64 9 := by unfold wf64; omega
  have PT1 : Hid (∀ q V, Que V B q [] 0 → Keep B w V → Calls Try.prog 17 #[.pointer (some ⟨q, 0, none⟩), .int .i64 2, .int .i64 9] V fun e w' => e = .returned (.int .i64 0) ∧ Hid (Que w' B q [(2, 9)] 1) ∧ Hid (Keep B w w')) := fun q V hQ hK => PT q [] 0 V 2 9 _ hQ hK (by omega) wf.2.1 wf.2.2.2.2 rfl rfl
  have PT2 : Hid (∀ q V, Que V B q [(2, 9)] 1 → Keep B w V → Calls Try.prog 17 #[.pointer (some ⟨q, 0, none⟩), .int .i64 1, .int .i64 9] V fun e w' => e = .returned (.int .i64 0) ∧ Hid (Que w' B q [(1, 9), (2, 9)] 2) ∧ Hid (Keep B w w')) := fun q V hQ hK => PT q [(2, 9)] 1 V 1 9 _ hQ hK (by omega) wf.1 wf.2.2.2.2 (by simp [putR, ids, insP, ltP]) (by simp [putC, ids])
  have PT3 : Hid (∀ q V, Que V B q [(1, 9), (2, 9)] 2 → Keep B w V → Calls Try.prog 17 #[.pointer (some ⟨q, 0, none⟩), .int .i64 3, .int .i64 5] V fun e w' => e = .returned (.int .i64 0) ∧ Hid (Que w' B q [(3, 5), (1, 9), (2, 9)] 3) ∧ Hid (Keep B w w')) := fun q V hQ hK => PT q [(1, 9), (2, 9)] 2 V 3 5 _ hQ hK (by omega) wf.2.2.1 wf.2.2.2.1 (by simp [putR, ids, insP, ltP]) (by simp [putC, ids])
  have DU : Hid (∀ (q : Nat) (V : World), Que V B q [(3, 5), (1, 9), (2, 9)] 3 → Keep B w V → Calls Try.prog 15 #[.pointer (some ⟨q, 0, none⟩), .int .i64 9] V fun e w' => ∃ A c, e = .returned (.slice A 3 c) ∧ Hid (IntsAt w' A [3, 1, 2]) ∧ Hid (Keep B w w') ∧ ∃ B', Hid (Que w' B' q [] 3)) := fun q V hQ hK => by
    refine (due_any V B q _ 3 hQ 9 ⟨by omega, by omega⟩).mono ?_
    rintro e w' ⟨v, rfl, S⟩
    obtain ⟨A, c, h1, h2, h3⟩ := RowI.open_ (l := dueL [(3, 5), (1, 9), (2, 9)] 9) S.out.row
    rw [h1]
    exact ⟨A, c, rfl, h2, hK.trans S.out.keep, _, S.out.que⟩
  have LN : Hid (∀ (B : Nat → Prop) (q : Nat) (L : List Pr) (n N : Nat) (V : World), Que V B q L N → L.length = n → Calls Try.prog 13 #[.pointer (some ⟨q, 0, none⟩)] V fun e w' => e = .returned (.int .i64 (n : Nat)) ∧ V = w') := fun B q L n N V hQ hn => hn ▸ qlen_any V B q L N hQ
  have IN : Hid (∀ (A : Option Addr) (c : Nat) (V : World), IntsAt V A [3, 1, 2] → Calls Try.prog 23 #[.slice A 3 c, .slice (some ⟨V.heap.size, 0, none⟩) 3 3] (V.alloc (.cells #[.int .i64 3, .int .i64 1, .int .i64 2] 3)) fun e w' => e = .returned (.bool true) ∧ Hid (Below V.heap.size V w')) := fun A c V hI => by
    have hb := (Below.refl V.heap.size V).alloc (Nat.le_refl _) (.cells #[.int .i64 3, .int .i64 1, .int .i64 2] 3)
    refine (ints_any A _ c 3 [3, 1, 2] [3, 1, 2] _ (hI.below hb) (lit_row V [3, 1, 2] 3 rfl) (by decide) (by decide)).mono ?_
    rintro e w' ⟨rfl, h⟩
    exact ⟨rfl, hb.trans (h.out.mono hb.size)⟩
  clear hB PT wf
  go_enter Try.func16, Try.ntmps16
  go_wp2_with (first
    | (go_at_call 9; (with_reducible refine NW.out.mono ?_); rintro e w1 ⟨q, rfl, Q1, K1⟩)
    | (go_at_call 17; first
        | ((with_reducible refine (PT3.out q _ Q3.out K3.out).mono ?_); rintro e w4 ⟨rfl, Q4, K4⟩)
        | ((with_reducible refine (PT2.out q _ Q2.out K2.out).mono ?_); rintro e w3 ⟨rfl, Q3, K3⟩)
        | ((with_reducible refine (PT1.out q _ Q1.out K1.out).mono ?_); rintro e w2 ⟨rfl, Q2, K2⟩)
        | fail)
    | (go_at_call 15; (with_reducible refine (DU.out q _ Q4.out K4.out).mono ?_); rintro e w5 ⟨A, c, rfl, I5, K5, B', Q5⟩)
    | (go_at_call 23; (with_reducible refine (IN.out A c _ I5.out).mono ?_); rintro e w6 ⟨rfl, b6⟩)
    | (go_at_call 13; first
        | ((with_reducible refine (LN.out B' q [] 0 3 _ (Q5.out.below b6.out) rfl).mono ?_); rintro e w7 ⟨rfl, rfl⟩)
        | ((with_reducible refine (LN.out B q [(3, 5), (1, 9), (2, 9)] 3 3 _ Q4.out rfl).mono ?_); rintro e w7 ⟨rfl, rfl⟩)
        | fail))
  go_ret
  exact ⟨rfl, HB.out _ (K5.out.trans (Turn.of_below b6.out))⟩
end Go.Proofs.Ytiaonfmdjipekaa.Ls
