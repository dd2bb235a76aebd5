/- Walk: container/heap's up over a queue's pile. Conditions: as XLsPile. -/
import Derived.Test.YtiaonfmdjipekaaLsM
set_option linter.unusedVariables false
namespace Go.Proofs.Ytiaonfmdjipekaa.Ls
open Go.RowKit
def Own (B : Nat → Prop) (D k : Nat) : Prop := ¬ B k ∧ k ≠ D
/-- a queue's block, its pile, its map's block -/
structure QP (w : World) (B : Nat → Prop) (q : Nat) (A : Option Addr) (c : Nat) (h : List Ent) (D : Nat) : Prop where
  box : w.heap[q]? = some (.cells #[.slice A h.length c, .map (some D)] 59 (0, 0))
  pile : Pile w B A c h
  base : ¬ B q
  old : ∀ k, B k → k < w.heap.size
  mapD : ∃ es ck, w.heap[D]? = some (.map es ck)
theorem ne_map {w : World} {g D : Nat} {cs : Array Value} {t : TypeId} {fr : Nat × Nat} (h : w.heap[g]? = some (.cells cs t fr)) (m : ∃ es ck, w.heap[D]? = some (.map es ck)) : g ≠ D := by
  rintro rfl
  obtain ⟨es, ck, m⟩ := m
  rw [h] at m
  simp at m
theorem Pile.own {w : World} {B : Nat → Prop} {A : Option Addr} {c : Nat} {h : List Ent} (p : Pile w B A c h) {D : Nat} (m : ∃ es ck, w.heap[D]? = some (.map es ck)) (k : Nat) (hk : PB A h k) : Own B D k := by
  refine ⟨p.from k hk, ?_⟩
  rcases hk with rfl | hk
  · rcases p.row.2 with ⟨h1, _⟩ | ⟨g, cap, cur, h1, _, h2, _⟩
    · simp at h1
    · simp at h1
      exact ne_map (h1.1 ▸ h2) m
  · obtain ⟨e, he, rfl⟩ := List.mem_map.1 hk
    obtain ⟨i, hi, rfl⟩ := mem_getD he
    exact ne_map (p.ents i hi).1 m
theorem Pile.ne_q {w : World} {B : Nat → Prop} {A : Option Addr} {c : Nat} {h : List Ent} (p : Pile w B A c h) {q : Nat} {cs : Array Value} (hq : w.heap[q]? = some (.cells cs 59 (0, 0))) (hk : PB A h q) : False := by
  rcases hk with rfl | hk
  · rcases p.row.2 with ⟨h1, _⟩ | ⟨g, cap, cur, h1, _, h2, _⟩
    · simp at h1
    · simp at h1
      rw [← h1.1, hq] at h2
      simp at h2
  · obtain ⟨e, he, rfl⟩ := List.mem_map.1 hk
    obtain ⟨i, hi, rfl⟩ := mem_getD he
    have h2 := (p.ents i hi).1
    unfold EntAt at h2
    rw [hq] at h2
    simp at h2
theorem QP.mapLt {w : World} {B : Nat → Prop} {q : Nat} {A : Option Addr} {c : Nat} {h : List Ent} {D : Nat} (P : QP w B q A c h D) : D < w.heap.size := by
  obtain ⟨es, ck, m⟩ := P.mapD
  exact blt m
theorem QP.below {w w' : World} {B : Nat → Prop} {q : Nat} {A : Option Addr} {c : Nat} {h : List Ent} {D : Nat} (P : QP w B q A c h D) (hb : Below w.heap.size w w') : QP w' B q A c h D :=
  ⟨(hb.block _ (blt P.box)).trans P.box, P.pile.below hb, P.base, fun k hk => Nat.lt_of_lt_of_le (P.old k hk) hb.size, by obtain ⟨es, ck, m⟩ := P.mapD; exact ⟨es, ck, (hb.block _ (blt m)).trans m⟩⟩
theorem QP.c0 {w : World} {B : Nat → Prop} {q : Nat} {A : Option Addr} {c : Nat} {h : List Ent} {D : Nat} (P : QP w B q A c h D) : w.cell? ⟨q, 0, none⟩ = some (.slice A h.length c) := bcell P.box 0
theorem QP.swapped {w w' : World} {B : Nat → Prop} {q : Nat} {A : Option Addr} {c : Nat} {h h' : List Ent} {D : Nat} (P : QP w B q A c h D) (hl : h'.length = h.length) (p : Pile w' B A c h') (t : Turn (PB A h) w w') : QP w' B q A c h' D ∧ Turn (Own B D) w w' := by
  refine ⟨⟨?_, p, P.base, fun k hk => Nat.lt_of_lt_of_le (P.old k hk) t.size, ?_⟩, t.mono fun k _ hk => P.pile.own P.mapD k hk⟩
  · rw [t.block q (blt P.box) fun e => P.pile.ne_q P.box e, hl]
    exact P.box
  · obtain ⟨es, ck, m⟩ := P.mapD
    exact ⟨es, ck, (t.block D (blt m) fun e => (P.pile.own P.mapD D e).2 rfl).trans m⟩
/-- up's law, one step -/
def upH (h : List Ent) (j : Nat) (R : List Ent) : Prop := ∃ f, j < f ∧ upL f h j = R
theorem upH.stop {h : List Ent} {j : Nat} {R : List Ent} (u : upH h j R) (hs : (j - 1) / 2 = j ∨ lessE (h.getD j ent0) (h.getD ((j - 1) / 2) ent0) = false) : h = R := by
  obtain ⟨f, hf, rfl⟩ := u
  obtain ⟨f, rfl⟩ : ∃ k, f = k + 1 := ⟨f - 1, by omega⟩
  unfold upL
  by_cases h1 : (j - 1) / 2 = j
  · rw [if_pos h1]
  · rw [if_neg h1, if_neg (by rcases hs with hs | hs; exact absurd hs h1; rw [hs]; simp)]
theorem upH.go {h : List Ent} {j : Nat} {R : List Ent} (u : upH h j R) (h1 : (j - 1) / 2 ≠ j) (hs : lessE (h.getD j ent0) (h.getD ((j - 1) / 2) ent0) = true) : upH (swapL h ((j - 1) / 2) j) ((j - 1) / 2) R := by
  obtain ⟨f, hf, rfl⟩ := u
  obtain ⟨f, rfl⟩ : ∃ k, f = k + 1 := ⟨f - 1, by omega⟩
  refine ⟨f, by omega, ?_⟩
  conv => rhs; unfold upL
  rw [if_neg h1, if_pos hs]
set_option maxRecDepth 100000 in
set_option maxHeartbeats 3200000 in
theorem up_any (w : World) (B : Nat → Prop) (q : Nat) (A : Option Addr) (c : Nat) (h : List Ent) (D : Nat) (P : QP w B q A c h D) (j : Nat) (hj : j < h.length) (hL : h.length ≤ 4096) :
    Calls Try.prog 37 #[.iface 66 (.pointer (some ⟨q, 0, none⟩)), .int .i64 (j : Nat)] w fun e w' => e = .returned (.tuple #[]) ∧ QP w' B q A c (upL (j + 1) h j) D ∧ Turn (Own B D) w w' := by
  have U0 : Hid (upH h j (upL (j + 1) h j)) := ⟨j + 1, by omega, rfl⟩
  have P0 := Lib.hid P
  have hjl := hj
  generalize upL (j + 1) h j = R at U0 ⊢
  clear P
  go_enter Try.func37, Try.ntmps37
  go_wp2_with fail
  go_loopg [1, 4] j (fun g v1 v4 wr => ∃ (k : Nat) (hh : List Ent), v1 = .int .i64 (k : Nat) ∧ k ≤ g ∧ k < hh.length ∧ hh.length ≤ 4096 ∧ Hid (QP wr B q A c hh D) ∧ Hid (Turn (Own B D) w wr) ∧ Hid (upH hh k R))
  case atStart => exact ⟨j, h, rfl, Nat.le_refl _, hj, hL, P0, Turn.refl _ _, U0⟩
  case round =>
    clear P0 U0 hj hL
    obtain ⟨k, hh, rfl, hkg, hkl, hL, PK, TK, UK⟩ := hrel
    rcases k with _ | m
    · obtain rfl : hh = R := UK.out.stop (Or.inl rfl)
      clear UK
      go_wp2_with fail
      go_end0
      exact ⟨rfl, PK.out, TK.out⟩
    · have c0 := PK.out.c0
      have LS : Hid (Calls Try.prog 82 #[.slice A hh.length c, .int .i64 ((m + 1 : Nat) : Int), .int .i64 ((m / 2 : Nat) : Int)] wr fun e w' => e = .returned (.bool (lessE (hh.getD (m + 1) ent0) (hh.getD (m / 2) ent0))) ∧ Hid (QP w' B q A c hh D) ∧ Hid (Turn (Own B D) w w') ∧ (method 231 66 (.pointer (some ⟨q, 0, none⟩)) "Swap").run Try.prog w' = .ok (83, .slice A hh.length c) w') :=
        (less_any wr B A c hh PK.out.pile (m + 1) (m / 2) hkl (by omega)).mono fun e w' ⟨h1, h2⟩ => ⟨h1, PK.out.below h2, TK.out.trans (Turn.of_below h2), meth_swap _ w' _ (PK.out.below h2).c0⟩
      have q1 : ((m + 1 : Nat) : Int) - 1 = (m : Int) := by omega
      have q2 : Int.tdiv (m : Int) 2 = ((m / 2 : Nat) : Int) := by rw [Int.tdiv_eq_ediv_of_nonneg (by omega)]; omega
      have hki : (m + 1 - 1) / 2 = m / 2 := by omega
      have ST := UK.out.stop
      have GO := UK.out.go
      rw [hki] at ST GO
      obtain ⟨i, hi⟩ : ∃ i, i = m / 2 := ⟨_, rfl⟩
      rw [← hi] at q2 LS ST GO
      have him : i < m + 1 := by omega
      have hil : i < hh.length := by omega
      clear hi UK
      have SW : Hid (∀ V, QP V B q A c hh D → Calls Try.prog 83 #[.slice A hh.length c, .int .i64 (i : Nat), .int .i64 ((m + 1 : Nat) : Int)] V fun e w' => e = .returned (.tuple #[]) ∧ Hid (QP w' B q A c (swapL hh i (m + 1)) D) ∧ Hid (Turn (Own B D) V w')) := fun V hV =>
        (swap_any V B A c hh hV.pile i (m + 1) hil hkl (by omega)).mono fun e w' ⟨h1, h2, h3⟩ => ⟨h1, (hV.swapped (swapL_len _ _ _) h2 h3).1, (hV.swapped (swapL_len _ _ _) h2 h3).2⟩
      have ml := meth_less _ wr _ c0
      have e1 : ((m + 1 : Nat) : Int) = (m : Int) + 1 := by omega
      rw [e1] at LS SW
      clear e1
      have hm1 : ((i : Int) == (m : Int) + 1) = false := by simp; omega
      obtain ⟨b, hb⟩ : ∃ b, b = lessE (hh.getD (m + 1) ent0) (hh.getD i ent0) := ⟨_, rfl⟩
      rw [← hb] at LS ST GO
      clear hb
      have STH := Lib.hid ST
      have GOH := Lib.hid GO
      clear ST GO hki
      have HNL : Hid (hh.length = hh.length) := rfl
      generalize hn : hh.length = n at c0 LS hkl hL SW ml HNL
      have HN := Lib.hid hn
      clear hn hil
      clear PK TK
      cases b with
      | false =>
        obtain rfl : hh = R := STH.out (Or.inr rfl)
        clear STH GOH SW
        go_wp2_with (go_at_call 82; (with_reducible refine LS.out.mono ?_); rintro e w1 ⟨rfl, P1, T1, ms⟩)
        go_end0
        exact ⟨rfl, P1.out, T1.out⟩
      | true =>
        have U2 := Lib.hid (GOH.out (by omega) rfl)
        clear STH GOH
        go_wp2_with (first | (go_at_call 82; (with_reducible refine LS.out.mono ?_); rintro e w1 ⟨rfl, P1, T1, ms⟩) | (go_at_call 83; (with_reducible refine (SW.out _ P1.out).mono ?_); rintro e w2 ⟨rfl, P2, T2⟩))
        go_roundg i
        case rel => exact ⟨i, _, rfl, Nat.le_refl _, by rw [swapL_len, HN.out]; omega, by rw [swapL_len, HN.out]; exact hL, P2, T1.out.trans T2.out, U2⟩
        all_goals omega
end Go.Proofs.Ytiaonfmdjipekaa.Ls
