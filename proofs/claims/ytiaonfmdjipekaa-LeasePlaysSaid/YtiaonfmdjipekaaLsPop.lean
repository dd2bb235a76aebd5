/- Walk: the last one of a pile is taken. Conditions: as XLsPile. -/
import Derived.Test.YtiaonfmdjipekaaLsPush
set_option linter.unusedVariables false
namespace Go.Proofs.Ytiaonfmdjipekaa.Ls
open Go.RowKit
theorem pslice_to (g n c k : Nat) (hk : k ≤ c) (hc : 0 < c) (w : World) :
    (Instr.sliceAt 56 (.slice (some ⟨g, 0, none⟩) n c) none (some (.int .i64 (k : Int))) none).run Try.prog w = .ok (.slice (some ⟨g, 0, none⟩) k c) w := by
  have ht : Try.prog.underlying 56 = some (.slice (Try.prog.elem 56)) := by kernel_rfl
  have hs : (sizeOf (Try.prog.elem 56)).run Try.prog w = .ok 1 w := by kernel_rfl
  rw [run_sliceAt_slice w _ _ _ _ _ ht, run_slice_h w _ _ n c ht .i64 (k : Int) (by omega) (by omega), hs]
  simp [sliced, Result.andThen]
  intro _
  unfold Addr.add
  split <;> simp_all
theorem QP.cut {w : World} {B : Nat → Prop} {q : Nat} {A : Option Addr} {c : Nat} {h : List Ent} {D : Nat} (P : QP w B q A c h D) (n : Nat) (hn : h.length = n + 1) :
    QP (w.setCell ⟨q, 0, none⟩ (.slice A n c)) B q A c (h.take n) D ∧ Turn (Own B D) w (w.setCell ⟨q, 0, none⟩ (.slice A n c)) := by
  have hl : (h.take n).length = n := by simp; omega
  have hg : ∀ i, i < n → (h.take n).getD i ent0 = h.getD i ent0 := fun i hi => by simp [List.getD_eq_getElem?_getD, hi]
  refine ⟨⟨?_, ⟨?_, P.pile.out, fun i hi => ?_, ?_⟩, P.base, fun k hk => by simpa using P.old k hk, ?_⟩, (Turn.refl _ w).set P.own_q 0 _⟩
  · rw [set_at P.box, hl]
    rfl
  · rw [hl]
    obtain ⟨g, cur, rfl, hgB, hh, hc, hsz, htk, hcur⟩ := P.pile.block (i := 0) (by omega)
    refine ⟨by rw [ptrs_len, hl, Nat.mul_one], Or.inr ⟨g, c, cur, rfl, Nat.zero_le _, ?_, by omega, ?_, by rw [Nat.mul_one]; exact hsz, ?_⟩⟩
    · have : g ≠ q := fun x => by
        have := P.box
        rw [← x, hh] at this
        simp at this
      rw [set_off this]
      exact hh
    · rcases P.pile.row.2 with ⟨h1, _⟩ | ⟨_, cap, _, h1, _, _, _, h2, _⟩
      · simp at h1
      · simp at h1
        omega
    · have : ptrs (h.take n) = (ptrs h).take n := by simp [ptrs, List.map_take]
      rw [this, ← htk, Nat.mul_one, List.take_take, Nat.min_eq_left (by omega)]
  · rw [hl] at hi
    rw [hg i hi]
    have e := P.pile.ents i (by omega)
    refine ⟨e.1.off fun x => ?_, e.2⟩
    have h1 := P.box
    have h2 := e.1
    unfold EntAt at h2
    rw [x, h1] at h2
    simp at h2
  · exact (List.Sublist.map _ (List.take_sublist n h)).nodup P.pile.apart
  · obtain ⟨es, ck, m⟩ := P.mapD
    exact ⟨es, ck, by rw [set_off fun x => P.own_q.2 x.symm]; exact m⟩
set_option maxRecDepth 100000 in
set_option maxHeartbeats 3200000 in
theorem ppop_any (w : World) (B : Nat → Prop) (q : Nat) (A : Option Addr) (c : Nat) (h : List Ent) (D : Nat) (P : QP w B q A c h D) (n : Nat) (hn : h.length = n + 1) (hL : h.length ≤ 4096) :
    Calls Try.prog 84 #[.pointer (some ⟨q, 0, none⟩)] w fun e' w' => e' = .returned (.iface 62 (.pointer (some ⟨(h.getD n ent0).blk, 0, none⟩))) ∧ Hid (QP w' B q A c (h.take n) D) ∧ Hid (Turn (Own B D) w w') := by
  have c0 := P.c0
  have f0 := bfree P.box 0
  have HC := Lib.hid (P.cut n hn)
  obtain ⟨g, cur, rfl, hgB, hh, hc, hsz, htk, hcur⟩ := P.pile.block (i := 0) (by omega)
  have cn := (bcell hh n).trans (hcur n (by omega))
  have hs1 := fun W => pslice_to g (n + 1) c n (by omega) (by omega) W
  rw [hn] at c0
  have hn4 : n < 4096 := by omega
  generalize h.getD n ent0 = e at cn ⊢
  clear P hh hcur htk hgB hn hL
  go_enter Try.func84, Try.ntmps84
  go_wp2_with fail
  go_ret
  exact ⟨rfl, HC.out.1, HC.out.2⟩
end Go.Proofs.Ytiaonfmdjipekaa.Ls
