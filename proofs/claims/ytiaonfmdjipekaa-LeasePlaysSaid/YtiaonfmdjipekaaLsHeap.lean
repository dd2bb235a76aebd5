/- Walks: container/heap's Push, Fix, Remove over a queue's pile. Conditions: as XLsPile. -/
import Derived.Test.YtiaonfmdjipekaaLsPop
set_option linter.unusedVariables false
namespace Go.Proofs.Ytiaonfmdjipekaa.Ls
open Go.RowKit
def fixL (h : List Ent) (i n : Nat) : List Ent := if i < (downL (n + 1) h i n).2 then (downL (n + 1) h i n).1 else upL (i + 1) (downL (n + 1) h i n).1 i
def remL (h : List Ent) (i n : Nat) : List Ent := if n = i then h else fixL (swapL h i n) i n
theorem fixL_len (h : List Ent) (i n : Nat) : (fixL h i n).length = h.length := by
  unfold fixL
  split
  · exact downL_len _ _ _ _
  · rw [upL_len, downL_len]
theorem remL_len (h : List Ent) (i n : Nat) : (remL h i n).length = h.length := by
  unfold remL
  split
  · rfl
  · rw [fixL_len, swapL_len]
theorem len_q (B : Nat → Prop) (q : Nat) (A : Option Addr) (c n : Nat) (V : World) :
    Calls Try.prog 81 #[.slice A n c] V fun e w' => e = .returned (.int .i64 (n : Nat)) ∧ V = w' := plen_any A n c V
set_option maxRecDepth 100000 in
set_option maxHeartbeats 3200000 in
theorem hpush_any (w : World) (B : Nat → Prop) (q : Nat) (A : Option Addr) (c : Nat) (h : List Ent) (D : Nat) (P : QP w B q A c h D) (e : Ent) (k : Int) (hE : EntAt w e k) (hBe : ¬ B e.blk) (hnew : e.blk ∉ h.map Ent.blk) (hL : h.length ≤ 4000) :
    Calls Try.prog 28 #[.iface 66 (.pointer (some ⟨q, 0, none⟩)), .iface 62 (.pointer (some ⟨e.blk, 0, none⟩))] w fun e' w' => e' = .returned (.tuple #[]) ∧ ∃ A' c', Hid (QP w' B q A' c' (upL (h.length + 1) (h ++ [e]) h.length) D) ∧ Hid (Turn (Own B D) w w') := by
  have hlen : (h ++ [e]).length = h.length + 1 := by simp
  have mp := meth_push ⟨q, 0, none⟩ w
  have PU : Hid (Calls Try.prog 85 #[.pointer (some ⟨q, 0, none⟩), .iface 62 (.pointer (some ⟨e.blk, 0, none⟩))] w fun e' w' => e' = .returned (.tuple #[]) ∧ ∃ A' c', Hid (QP w' B q A' c' (h ++ [e]) D) ∧ Hid (Turn (Own B D) w w') ∧ (method 231 66 (.pointer (some ⟨q, 0, none⟩)) "Len").run Try.prog w' = .ok (81, .slice A' (h.length + 1) c') w') :=
    (ppush_any w B q A c h D P e k hE hBe hnew hL).mono fun e' w' ⟨h1, A', c', h2, h3⟩ => ⟨h1, A', c', h2, h3, meth_len _ w' _ (by have := h2.out.c0; rw [hlen] at this; exact this)⟩
  have UP : Hid (∀ A' c' V, Hid (QP V B q A' c' (h ++ [e]) D) → Calls Try.prog 37 #[.iface 66 (.pointer (some ⟨q, 0, none⟩)), .int .i64 (h.length : Nat)] V fun e' w' => e' = .returned (.tuple #[]) ∧ Hid (QP w' B q A' c' (upL (h.length + 1) (h ++ [e]) h.length) D) ∧ Hid (Turn (Own B D) V w')) :=
    fun A' c' V hV => up_any V B q A' c' (h ++ [e]) D hV.out h.length (by omega) (by omega)
  clear P hE hnew hlen
  generalize upL (h.length + 1) (h ++ [e]) h.length = R at UP ⊢
  generalize h.length = n at PU UP hL
  go_enter Try.func28, Try.ntmps28
  go_wp2_with (first
    | (go_at_call 85; (with_reducible refine PU.out.mono ?_); rintro e1 w1 ⟨rfl, A1, c1, P1, T1, ml⟩)
    | (go_at_call 81; (with_reducible refine (len_q B q A1 c1 (n + 1) w1).mono ?_); rintro e2 w2 ⟨rfl, rfl⟩)
    | (go_at_call 37; (with_reducible refine (UP.out A1 c1 _ P1).mono ?_); rintro e3 w3 ⟨rfl, P3, T3⟩))
  go_end0
  exact ⟨rfl, A1, c1, P3, T1.out.trans T3.out⟩
theorem down_q (B : Nat → Prop) (q : Nat) (A : Option Addr) (c : Nat) (h : List Ent) (D i n m : Nat) (hm : h.length = m) (hi : i < m) (hn : n ≤ m) (hL : m ≤ 4096) (V : World) (hV : Hid (QP V B q A c h D)) :
    Calls Try.prog 36 #[.iface 66 (.pointer (some ⟨q, 0, none⟩)), .int .i64 (i : Nat), .int .i64 (n : Nat)] V fun e' w' => e' = .returned (.bool (decide (i < (downL (n + 1) h i n).2))) ∧ Hid (QP w' B q A c (downL (n + 1) h i n).1 D) ∧ Hid (Turn (Own B D) V w') ∧ (method 231 66 (.pointer (some ⟨q, 0, none⟩)) "Pop").run Try.prog w' = .ok (84, .pointer (some ⟨q, 0, none⟩)) w' :=
  (down_any V B q A c h D hV.out i n (by omega) (by omega) (by omega)).mono fun e' w' ⟨h1, h2, h3⟩ => ⟨h1, h2, h3, meth_pop _ _⟩
theorem up_q (B : Nat → Prop) (q : Nat) (A : Option Addr) (c : Nat) (h : List Ent) (D i m : Nat) (hm : h.length = m) (hi : i < m) (hL : m ≤ 4096) (V : World) (hV : Hid (QP V B q A c h D)) :
    Calls Try.prog 37 #[.iface 66 (.pointer (some ⟨q, 0, none⟩)), .int .i64 (i : Nat)] V fun e' w' => e' = .returned (.tuple #[]) ∧ Hid (QP w' B q A c (upL (i + 1) h i) D) ∧ Hid (Turn (Own B D) V w') ∧ (method 231 66 (.pointer (some ⟨q, 0, none⟩)) "Pop").run Try.prog w' = .ok (84, .pointer (some ⟨q, 0, none⟩)) w' :=
  (up_any V B q A c h D hV.out i (by omega) (by omega)).mono fun e' w' ⟨h1, h2, h3⟩ => ⟨h1, h2, h3, meth_pop _ _⟩
set_option maxRecDepth 100000 in
set_option maxHeartbeats 3200000 in
theorem hfix_any (w : World) (B : Nat → Prop) (q : Nat) (A : Option Addr) (c : Nat) (h : List Ent) (D : Nat) (P : QP w B q A c h D) (i n : Nat) (hn : h.length = n) (hi : i < n) (hL : n ≤ 4000) :
    Calls Try.prog 27 #[.iface 66 (.pointer (some ⟨q, 0, none⟩)), .int .i64 (i : Nat)] w fun e' w' => e' = .returned (.tuple #[]) ∧ Hid (QP w' B q A c (fixL h i n) D) ∧ Hid (Turn (Own B D) w w') := by
  have hd := down_q B q A c h D i n n hn hi (Nat.le_refl _) (by omega)
  have hu := up_q B q A c (downL (n + 1) h i n).1 D i n (by rw [downL_len]; exact hn) hi (by omega)
  have ml := meth_len _ w _ P.c0
  rw [hn] at ml
  have DO := Lib.hid (hd w P)
  have UP := Lib.hid hu
  clear P hd hu
  unfold fixL
  generalize downL (n + 1) h i n = R at DO UP ⊢
  obtain ⟨R1, j⟩ := R
  simp only at DO UP ⊢
  by_cases hj : i < j
  · rw [if_pos hj]
    have hv : decide (i < j) = true := by simpa using hj
    rw [hv] at DO
    clear hv hj UP
    go_enter Try.func27, Try.ntmps27
    go_wp2_with (first
      | (go_at_call 81; (with_reducible refine (len_q B q A c n w).mono ?_); rintro e2 w2 ⟨rfl, rfl⟩)
      | (go_at_call 36; (with_reducible refine DO.out.mono ?_); rintro e3 w3 ⟨rfl, P3, T3, _⟩))
    go_end0
    exact ⟨rfl, P3, T3⟩
  · rw [if_neg hj]
    have hv : decide (i < j) = false := by simpa using hj
    rw [hv] at DO
    clear hv hj
    go_enter Try.func27, Try.ntmps27
    go_wp2_with (first
      | (go_at_call 81; (with_reducible refine (len_q B q A c n w).mono ?_); rintro e2 w2 ⟨rfl, rfl⟩)
      | (go_at_call 36; (with_reducible refine DO.out.mono ?_); rintro e3 w3 ⟨rfl, P3, T3, _⟩)
      | (go_at_call 37; (with_reducible refine (UP.out _ P3).mono ?_); rintro e4 w4 ⟨rfl, P4, T4, _⟩))
    go_end0
    exact ⟨rfl, P4, T3.out.trans T4.out⟩
set_option maxRecDepth 100000 in
set_option maxHeartbeats 3200000 in
theorem hremove_any (w : World) (B : Nat → Prop) (q : Nat) (A : Option Addr) (c : Nat) (h : List Ent) (D : Nat) (P : QP w B q A c h D) (i n : Nat) (hn : h.length = n + 1) (hi : i < n + 1) (hL : n ≤ 4000) :
    Calls Try.prog 26 #[.iface 66 (.pointer (some ⟨q, 0, none⟩)), .int .i64 (i : Nat)] w fun e' w' => (∃ v, e' = .returned v) ∧ Hid (QP w' B q A c ((remL h i n).take n) D) ∧ Hid (Turn (Own B D) w w') := by
  have PO : Hid (∀ h', h'.length = n + 1 → ∀ V, Hid (QP V B q A c h' D) → Calls Try.prog 84 #[.pointer (some ⟨q, 0, none⟩)] V fun e' w' => (∃ v, e' = .returned v) ∧ Hid (QP w' B q A c (h'.take n) D) ∧ Hid (Turn (Own B D) V w')) :=
    fun h' hl V hV => (ppop_any V B q A c h' D hV.out n hl (by omega)).mono fun e' w' ⟨h1, h2, h3⟩ => ⟨⟨_, h1⟩, h2, h3⟩
  have c0 := P.c0
  rw [hn] at c0
  have ml := meth_len _ w _ c0
  unfold remL
  by_cases hni : n = i
  · subst hni
    rw [if_pos rfl]
    have mp := meth_pop ⟨q, 0, none⟩ w
    have PO1 := Lib.hid (PO.out h hn w P)
    clear P c0 PO
    go_enter Try.func26, Try.ntmps26
    go_wp2_with (first
      | (go_at_call 81; (with_reducible refine (len_q B q A c (n + 1) w).mono ?_); rintro e2 w2 ⟨rfl, rfl⟩)
      | (go_at_call 84; (with_reducible refine PO1.out.mono ?_); rintro e4 w4 ⟨⟨v, rfl⟩, P4, T4⟩))
    go_ret
    exact ⟨⟨_, rfl⟩, P4, T4⟩
  · rw [if_neg hni]
    have hne : ((n : Int) == (i : Int)) = false := by simp; omega
    have hne2 : ((n : Int) != (i : Int)) = true := by simp; omega
    have msw := meth_swap _ w _ c0
    have SW := Lib.hid (hn ▸ swap_q B q A c h D i n (by omega) (by omega) (fun x => hni x.symm) w P)
    have hls : (swapL h i n).length = n + 1 := by rw [swapL_len]; exact hn
    have DO := Lib.hid (down_q B q A c (swapL h i n) D i n (n + 1) hls hi (by omega) (by omega))
    have UP := Lib.hid (up_q B q A c (downL (n + 1) (swapL h i n) i n).1 D i (n + 1) (by rw [downL_len]; exact hls) hi (by omega))
    have POA := Lib.hid (PO.out (downL (n + 1) (swapL h i n) i n).1 (by rw [downL_len]; exact hls))
    have POB := Lib.hid (PO.out (upL (i + 1) (downL (n + 1) (swapL h i n) i n).1 i) (by rw [upL_len, downL_len]; exact hls))
    clear P PO c0 hls
    unfold fixL
    generalize swapL h i n = hs at SW DO UP POA POB ⊢
    generalize downL (n + 1) hs i n = R at DO UP POA POB ⊢
    obtain ⟨R1, j⟩ := R
    simp only at DO UP POA POB ⊢
    by_cases hj : i < j
    · rw [if_pos hj]
      have hv : decide (i < j) = true := by simpa using hj
      rw [hv] at DO
      clear hv hj UP POB
      go_enter Try.func26, Try.ntmps26
      go_wp2_with (first
        | (go_at_call 81; (with_reducible refine (len_q B q A c (n + 1) w).mono ?_); rintro e2 w2 ⟨rfl, rfl⟩)
        | (go_at_call 83; (with_reducible refine SW.out.mono ?_); rintro e5 w5 ⟨rfl, P5, T5⟩)
        | (go_at_call 36; (with_reducible refine (DO.out _ P5).mono ?_); rintro e3 w3 ⟨rfl, P3, T3, mp⟩)
        | (go_at_call 84; (with_reducible refine (POA.out _ P3).mono ?_); rintro e4 w4 ⟨⟨v, rfl⟩, P4, T4⟩))
      go_ret
      exact ⟨⟨_, rfl⟩, P4, (T5.out.trans T3.out).trans T4.out⟩
    · rw [if_neg hj]
      have hv : decide (i < j) = false := by simpa using hj
      rw [hv] at DO
      clear hv hj POA
      go_enter Try.func26, Try.ntmps26
      go_wp2_with (first
        | (go_at_call 81; (with_reducible refine (len_q B q A c (n + 1) w).mono ?_); rintro e2 w2 ⟨rfl, rfl⟩)
        | (go_at_call 83; (with_reducible refine SW.out.mono ?_); rintro e5 w5 ⟨rfl, P5, T5⟩)
        | (go_at_call 36; (with_reducible refine (DO.out _ P5).mono ?_); rintro e3 w3 ⟨rfl, P3, T3, mp⟩)
        | (go_at_call 37; (with_reducible refine (UP.out _ P3).mono ?_); rintro e6 w6 ⟨rfl, P6, T6, mp6⟩)
        | (go_at_call 84; (with_reducible refine (POB.out _ P6).mono ?_); rintro e4 w4 ⟨⟨v, rfl⟩, P4, T4⟩))
      go_ret
      exact ⟨⟨_, rfl⟩, P4, ((T5.out.trans T3.out).trans T6.out).trans T4.out⟩
end Go.Proofs.Ytiaonfmdjipekaa.Ls
