/- Walks: 'order' once more, telling that the world only grows. Conditions: the entries lie. -/
import Derived.Test.YtiaonfmdjipekaaLsIter
import Derived.Test.YtiaonfmdjipekaaShelf
set_option linter.unusedVariables false
namespace Go.Proofs.Ytiaonfmdjipekaa.Ls
open Go.RowKit Go.Shelf Go.Lib Go.Sort
/-- the world grew: blocks were laid, draws were drawn -/
def Gr (w w' : World) : Prop := Below w.heap.size w w' ∧ w.drawn ≤ w'.drawn
theorem Gr.refl (w : World) : Gr w w := ⟨Below.refl _ _, Nat.le_refl _⟩
theorem Gr.trans {a b c : World} (h : Gr a b) (k : Gr b c) : Gr a c := ⟨h.1.trans (k.1.mono h.1.size), Nat.le_trans h.2 k.2⟩
theorem Gr.drew {a b : World} (h : Gr a b) : Gr a b.drew := ⟨h.1.drew, Nat.le_trans h.2 (Nat.le_succ _)⟩
theorem Gr.alloc {a b : World} (h : Gr a b) (o : Obj) : Gr a (b.alloc o) := ⟨h.1.alloc h.1.size o, h.2⟩
theorem Gr.grow {a b : World} (h : Gr a b) : ∃ q os, b = grow (a.drewN q) os := by
  obtain ⟨⟨h1, h2, h3, h4, h5⟩, h6⟩ := h
  refine ⟨b.drawn - a.drawn, b.heap.extract a.heap.size b.heap.size, ?_⟩
  obtain ⟨bh, bt, bd, bo, bp⟩ := b
  obtain ⟨ah, at_, ad, ao, ap⟩ := a
  simp only at h1 h2 h3 h4 h5 h6
  subst h1 h2 h3
  unfold Go.Sort.grow World.drewN
  simp only [World.mk.injEq, true_and]
  refine ⟨?_, by omega, trivial⟩
  apply Array.ext_getElem?
  intro i
  rw [Array.getElem?_append]
  split
  · rename_i hi
    exact h5 i hi
  · rename_i hi
    rw [Array.getElem?_extract]
    by_cases h7 : i < bh.size
    · simp only [Nat.min_self]
      rw [if_pos (by omega)]
      congr 1
      omega
    · rw [if_neg (by simp only [Nat.min_self]; omega)]
      exact Array.getElem?_eq_none (by omega)
set_option maxRecDepth 100000 in
set_option maxHeartbeats 1600000 in
theorem order_gr (a b : Ent) (ka kb : Int) (w : World) (ha : EntAt w a ka) (hb : EntAt w b kb) :
    Calls Try.prog 31 #[.pointer (some ⟨a.blk, 0, none⟩), .pointer (some ⟨b.blk, 0, none⟩)] w fun e w' => e = .returned (.int .i64 (orderZ a b)) ∧ Gr w w' := by
  have HV : Hid (orderZ a b = orZ (cmpZ a.til b.til) (cmpZ a.id b.id)) := order_or a b
  obtain ⟨ab, ai, at_⟩ := a
  obtain ⟨bb, bi, bt⟩ := b
  have a0 := bcell ha 0
  have a1 := bcell ha 1
  have b0 := bcell hb 0
  have b1 := bcell hb 1
  have la := blt ha
  have lb := blt hb
  simp only at HV a0 a1 b0 b1 la lb ⊢
  have C1 := Lib.hid (fun W => (compare_any at_ bt W).mono (fun e w' h => (⟨h.1, h.2 ▸ Gr.refl _⟩ : e = .returned (.int .i64 (cmpZ at_ bt)) ∧ Gr W w')))
  have C2 := Lib.hid (fun W => (compare_any ai bi W).mono (fun e w' h => (⟨h.1, h.2 ▸ Gr.refl _⟩ : e = .returned (.int .i64 (cmpZ ai bi)) ∧ Gr W w')))
  generalize cmpZ at_ bt = c1 at C1 HV
  generalize cmpZ ai bi = c2 at C2 HV
  have OR := Lib.hid (fun W : World => (or_any c1 c2 W.heap.size (W.alloc (.cells #[.int .i64 c1, .int .i64 c2] 3)) (bcell (heap_new W _ _) 0) (bcell (heap_new W _ _) 1)).mono (fun e w' h => (⟨h.1, h.2 ▸ Gr.refl _⟩ : e = .returned (.int .i64 (orZ c1 c2)) ∧ Gr (W.alloc (.cells #[.int .i64 c1, .int .i64 c2] 3)) w')))
  clear ha hb
  go_enter Try.func31, Try.ntmps31
  go_wp2_with fail
  have SB : ∀ V V' : World, Gr V V' → (Gr w V ∧ V.cell? ⟨ab, 0, none⟩ = some (.int .i64 ai) ∧ V.cell? ⟨ab, 1, none⟩ = some (.int .i64 at_) ∧ V.cell? ⟨bb, 0, none⟩ = some (.int .i64 bi) ∧ V.cell? ⟨bb, 1, none⟩ = some (.int .i64 bt)) →
      (Gr w V' ∧ V'.cell? ⟨ab, 0, none⟩ = some (.int .i64 ai) ∧ V'.cell? ⟨ab, 1, none⟩ = some (.int .i64 at_) ∧ V'.cell? ⟨bb, 0, none⟩ = some (.int .i64 bi) ∧ V'.cell? ⟨bb, 1, none⟩ = some (.int .i64 bt)) := by
    rintro V V' hB ⟨h0, h1, h2, h3, h4⟩
    have hs := h0.1.size
    exact ⟨h0.trans hB, (hB.1.cell (p := ⟨ab, 0, none⟩) (by simp; omega)).trans h1, (hB.1.cell (p := ⟨ab, 1, none⟩) (by simp; omega)).trans h2, (hB.1.cell (p := ⟨bb, 0, none⟩) (by simp; omega)).trans h3, (hB.1.cell (p := ⟨bb, 1, none⟩) (by simp; omega)).trans h4⟩
  have SBH := Lib.hid SB
  clear SB
  have D0 : Hid (Gr w w.drew ∧ w.drew.cell? ⟨ab, 0, none⟩ = some (.int .i64 ai) ∧ w.drew.cell? ⟨ab, 1, none⟩ = some (.int .i64 at_) ∧ w.drew.cell? ⟨bb, 0, none⟩ = some (.int .i64 bi) ∧ w.drew.cell? ⟨bb, 1, none⟩ = some (.int .i64 bt)) := ⟨(Gr.refl _).drew, a0, a1, b0, b1⟩
  go_region_held3 (fun w' => Gr w w' ∧ w'.cell? ⟨ab, 0, none⟩ = some (.int .i64 ai) ∧ w'.cell? ⟨ab, 1, none⟩ = some (.int .i64 at_) ∧ w'.cell? ⟨bb, 0, none⟩ = some (.int .i64 bi) ∧ w'.cell? ⟨bb, 1, none⟩ = some (.int .i64 bt))
    (first
      | exact D0.out
      | exact SBH.out _ _ (by assumption) (by assumption)
      | exact SBH.out _ _ (by assumption) ⟨by assumption, by assumption, by assumption, by assumption, by assumption⟩
      | exact SBH.out _ _ (by assumption) D0.out
      | exact SBH.out _ _ ((Gr.refl _).alloc _) (by assumption)
      | exact SBH.out _ _ ((Gr.refl _).alloc _) ⟨by assumption, by assumption, by assumption, by assumption, by assumption⟩
      | assumption
      | go_keep)
    (first
      | (go_at_call 42; (with_reducible refine (C1.out _).mono ?_); rintro e wa ⟨rfl, hba⟩)
      | (go_at_call 42; (with_reducible refine (C2.out _).mono ?_); rintro e wb ⟨rfl, hbb⟩)
      | (go_at_call 41; (with_reducible refine (OR.out _).mono ?_); rintro e wc ⟨rfl, hbc⟩)
      | fail)
  rename_i hh
  have HF : Hid (Gr w wc) := hh.1
  clear hh hba hbb hbc
  go_wp2_with fail
  go_ret
  exact ⟨by rw [HV.out]; rfl, HF.out⟩
end Go.Proofs.Ytiaonfmdjipekaa.Ls
