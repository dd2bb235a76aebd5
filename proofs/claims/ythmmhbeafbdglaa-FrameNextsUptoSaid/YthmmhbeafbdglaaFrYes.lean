import Derived.Test.YthmmhbeafbdglaaFrOne
import Derived.Deep.RegionHeldLaw
import Derived.Deep.AppendLies
namespace Go.Proofs.Ythmmhbeafbdglaa
open Go.RowKit
theorem own_grown {w w' : World} {base : Nat} {e : TypeId} {size n : Nat} {v : Value} {xs : List Value} (h : w.ownsRow base e size v n xs) {row : Option Nat} (hg : w.grownBy w' row) (hne : ∀ k, row = some k → ∀ cs fr, w.heap[k]? ≠ some (.cells cs e fr)) : w'.ownsRow base e size v n xs := by
  refine ⟨h.1, ?_⟩
  rcases h.2 with h2 | ⟨b, cap, cur, hv, hb, hh, r⟩
  · exact Or.inl h2
  · exact Or.inr ⟨b, cap, cur, hv, hb, (hg.block b (block_lt hh) (fun e' => hne b e'.symm _ _ hh)).trans hh, r⟩
theorem below_ddrewN {B : Nat} {a w : World} (h : Below B a w) (n : Nat) : Below B a (w.drewN n) := h.trans ⟨rfl, rfl, rfl, Nat.le_refl _, fun _ _ => rfl⟩
theorem own_elem {w : World} {base : Nat} {e e' : TypeId} {size n : Nat} {v : Value} {xs : List Value} (h : w.ownsRow base e size v n xs) (he : e ≠ e') : ∀ k, v.ownBlock = some k → ∀ cs fr, w.heap[k]? ≠ some (.cells cs e' fr) := by
  intro k hk cs fr hh
  rcases h.2 with ⟨rfl, _⟩ | ⟨b, cap, cur, rfl, hb, hc, _⟩
  · cases hk
  · have : b = k := by simpa [Value.ownBlock] using hk
    subst this
    rw [hc] at hh
    injection hh with hh
    injection hh with _ h2 _
    exact he h2
theorem scn_step {w0 w wc wb w4 : World} {g : Nat} {A : Option Addr} {cap : Nat} {bs : List Nat} {at_ seq : Nat} {vo : Value} {fs : List FrN} (h : Scn w0 w g A cap bs at_ seq vo fs) (HB : Below w.heap.size w wc) (B4 : Below wc.heap.size wc wb)
    {gg cp : Nat} (grow : wb.grownBy w4 vo.ownBlock) {A' : Option Addr} {k : Nat} {dd : List Nat} (hd : AllBytes dd) (ho : wc.ownsRow w.heap.size 5 1 (.slice A' dd.length k) dd.length (cellsOf dd))
    (own : w4.ownsRow (g + 1) 41 2 (.slice (some ⟨gg, 0, none⟩) (fs.length + 1) cp) (fs.length + 1) (frameCells fs ++ [.int .i64 (seq : Nat), .slice A' dd.length k])) (hge : ∀ k, vo.ownBlock = some k → g < k) (p q : Nat) :
    Below g w (((w4.setCell ⟨g, 3, none⟩ (.slice (some ⟨gg, 0, none⟩) (fs.length + 1) cp)).setCell ⟨g, 1, none⟩ (.int .i64 (p : Nat))).setCell ⟨g, 2, none⟩ (.int .i64 (q : Nat))) ∧
    Scn w0 (((w4.setCell ⟨g, 3, none⟩ (.slice (some ⟨gg, 0, none⟩) (fs.length + 1) cp)).setCell ⟨g, 1, none⟩ (.int .i64 (p : Nat))).setCell ⟨g, 2, none⟩ (.int .i64 (q : Nat))) g A cap bs p q (.slice (some ⟨gg, 0, none⟩) (fs.length + 1) cp) (fs ++ [⟨seq, A', k, dd⟩]) := by
  have hg := block_lt h.blk
  have hb1 := HB.size
  have hb2 := B4.size
  have hne : some g ≠ vo.ownBlock := fun e => by have := hge g e.symm; omega
  have BW : Below g w w4 := ((HB.mono (by omega)).trans (B4.mono (by omega))).grown grow (by omega) (fun k hk => by have := hge k hk; omega)
  have BG := ((BW.setCell (p := ⟨g, 3, none⟩) (Nat.le_refl _) (.slice (some ⟨gg, 0, none⟩) (fs.length + 1) cp)).setCell (p := ⟨g, 1, none⟩) (Nat.le_refl _) (.int .i64 (p : Nat))).setCell (p := ⟨g, 2, none⟩) (Nat.le_refl _) (.int .i64 (q : Nat))
  have hk4 : w4.heap[g]? = some (.cells #[.slice A bs.length cap, .int .i64 (at_ : Nat), .int .i64 (seq : Nat), vo] 80 (0, 0)) := (grow.block g (by omega) hne).trans ((B4.block g (by omega)).trans ((HB.block g hg).trans h.blk))
  have hkeep : ∀ j, g + 1 ≤ j → (((w4.setCell ⟨g, 3, none⟩ (.slice (some ⟨gg, 0, none⟩) (fs.length + 1) cp)).setCell ⟨g, 1, none⟩ (.int .i64 (p : Nat))).setCell ⟨g, 2, none⟩ (.int .i64 (q : Nat))).heap[j]? = w4.heap[j]? := fun j hj => by
    rw [Below.heap_setCell _ _ _ _ (by simp; omega), Below.heap_setCell _ _ _ _ (by simp; omega), Below.heap_setCell _ _ _ _ (by simp; omega)]
  have hrow := own_elem (own_below (own_below h.row HB) B4) (e' := 5) (by decide)
  refine ⟨BG, ⟨block_set (block_set (block_set hk4 3 _) 1 _) 2 _, h.base, h.old.trans (BG.mono h.base), ?_, ?_⟩⟩
  · have e : frameCells (fs ++ [⟨seq, A', k, dd⟩]) = frameCells fs ++ [.int .i64 (seq : Nat), .slice A' dd.length k] := by simp [frameCells, FrN.cells]
    rw [e]
    simpa using own_keep own hkeep
  · intro f hf
    rcases List.mem_append.1 hf with hf | hf
    · have o := h.each f hf
      exact ⟨own_keep (own_grown (own_below (own_below o.own HB) B4) grow hrow) hkeep, o.bytes⟩
    · simp only [List.mem_singleton] at hf
      subst hf
      exact ⟨own_lower (own_keep (own_grown (own_below ho B4) grow hrow) (fun j hj => hkeep j (by omega))) (by omega), hd⟩
set_option maxHeartbeats 1600000 in
theorem one_yes (w0 w : World) (g : Nat) (A : Option Addr) (cap : Nat) (bs : List Nat) (at_ seq : Nat) (vo : Value) (fs : List FrN) (h : Scn w0 w g A cap bs at_ seq vo fs) (AR : Option Addr) (cr : Nat) (r : List Nat)
    (hsl : ∀ W, (Instr.sliceAt 28 (.slice A bs.length cap) (some (.int .i64 (at_ : Nat))) none none).run Try.prog W = .ok (.slice AR r.length cr) W) (gr : BytesIn w0 AR cr r) (hrl : r.length ≤ 140737488355328)
    (h0 : nextE r = 0) (hs0 : seqOf r = seq) (hfl : fs.length ≤ 1000000000) (hat : at_ ≤ 140737488355328) (hln : lenOf r ≤ 262144) (hsq : (seq : Int) ≤ 4611686018427387904) :
    Calls Try.prog 45 #[.pointer (some ⟨g, 0, none⟩)] w fun e w' => e = .returned (.bool true) ∧ Below g w w' ∧ ∃ (vo' : Value) (A' : Option Addr) (k : Nat), Scn w0 w' g A cap bs (at_ + (20 + lenOf r)) (seq + 1) vo' (fs ++ [⟨seq, A', k, dataOf r⟩]) := by
  obtain ⟨i0, hi, hz0, hz1, hz2⟩ := info_parts infoFr
  have hg := block_lt h.blk
  have hc0 : w.cell? ⟨g, 0, none⟩ = some (.slice A bs.length cap) := block_cell h.blk 0
  have hc1 : w.cell? ⟨g, 1, none⟩ = some (.int .i64 (at_ : Nat)) := block_cell h.blk 1
  have CC : Hid (∀ W, Below w.heap.size w W → W.cell? ⟨g, 0, none⟩ = some (.slice A bs.length cap) ∧ W.cell? ⟨g, 1, none⟩ = some (.int .i64 (at_ : Nat)) ∧ W.cell? ⟨g, 2, none⟩ = some (.int .i64 (seq : Nat)) ∧ W.cell? ⟨g, 3, none⟩ = some vo) := fun W hW =>
    ⟨(hW.cell (p := ⟨g, 0, none⟩) hg).trans hc0, (hW.cell (p := ⟨g, 1, none⟩) hg).trans hc1, (hW.cell (p := ⟨g, 2, none⟩) hg).trans (block_cell h.blk 2), (hW.cell (p := ⟨g, 3, none⟩) hg).trans (block_cell h.blk 3)⟩
  have NN : Hid (∀ W, Below w.heap.size w W → Calls Try.prog 26 #[.slice AR r.length cr] W fun e w' => ∃ (sq : Nat) (A' : Option Addr) (L k n : Nat), e = .returned (.tuple #[.agg #[.int .i64 (sq : Nat), .slice A' L k], .int .i64 (n : Nat), .int .i64 (nextE r : Nat)]) ∧ Below W.heap.size W w' ∧
      (nextE r = 0 → sq = seqOf r ∧ n = 20 + lenOf r ∧ L = (dataOf r).length ∧ w'.ownsRow W.heap.size 5 1 (.slice A' L k) (dataOf r).length (cellsOf (dataOf r)))) := fun W hW => next_uni AR cr r W (gr.below (h.old.trans (hW.mono h.old.size))) hrl
  have H0 := Lib.hid h0
  have HS0 := Lib.hid hs0
  clear h0 hs0
  go_enter Try.func45, Try.ntmps45
  go_upto_region 1 with fail
  go_cut [3, 4, 5] (fun s3 s4 s5 wx => Got w r s3 s4 s5 wx)
  case first =>
    go_region_held3 (fun w' => w'.cell? ⟨g, 0, none⟩ = some (.slice A bs.length cap) ∧ w'.cell? ⟨g, 1, none⟩ = some (.int .i64 (at_ : Nat)))
      (first
        | go_keep
        | exact and12 (CC.out _ hb1)
        | exact and12 (CC.out _ (hb1.alloc hb1.size _))
        | exact and12 (CC.out _ (hb1.setCell (Nat.le_refl _) _))
        | exact and12 (CC.out _ ((hb1.setCell (Nat.le_refl _) _).setCell (Nat.le_refl _) _))
        | exact and12 (CC.out _ ((Below.refl _ _).alloc (Nat.le_refl _) _)))
      (first
        | (go_at_call 26; (with_reducible refine (NN.out _ ((Below.refl _ _).drew)).mono ?_); rintro e w1 ⟨sq, A', L, k, n, rfl, hb, hz⟩; have HZ := Lib.hid hz; have hb1 : Below w.heap.size w w1 := ⟨hb.os, hb.tape, hb.output, hb.size, hb.block⟩; clear hb hz)
        | (go_at_call 26; (with_reducible refine (NN.out _ (((Below.refl _ _).alloc (Nat.le_refl _) _).drew)).mono ?_); rintro e w1 ⟨sq, A', L, k, n, rfl, hb, hz⟩; have HZ := Lib.hid hz; have hb1 : Below w.heap.size w w1 := (((Below.refl _ _).alloc (Nat.le_refl _) (Obj.cells #[Value.int .i64 0, Value.slice none 0 0] 41)).drew).trans (hb.mono (by simp)); have HBK : Hid (w1.heap[w.heap.size]? = some (.cells #[Value.int .i64 0, Value.slice none 0 0] 41 (0, 0))) := (hb.block _ (by simp)).trans (heap_alloc_new _ _); have f0 := block_cell HBK.out 0; have f1 := block_cell HBK.out 1; have r0 := block_free HBK.out 0; have r1 := block_free HBK.out 1; clear hb hz)
        | fail)
    · go_wp2_with fail
      go_meet
      exact ⟨w1.heap.size, sq, L, k, n, A', rfl, rfl, rfl, hb1.size, heap_alloc_new _ _, hb1.alloc hb1.size _, fun h0 => by
        obtain ⟨a1, a2, a3, a4⟩ := HZ.out h0
        exact ⟨a1, a2, a3, own_below a4 ((Below.refl _ _).alloc (Nat.le_refl _) _)⟩⟩
    · go_wp2_with fail
      go_meet
      exact ⟨w.heap.size, sq, L, k, n, A', rfl, rfl, rfl, Nat.le_refl _, block_set (block_set HBK.out 0 _) 1 _, (hb1.setCell (Nat.le_refl _) _).setCell (Nat.le_refl _) _, fun h0 => by
        obtain ⟨a1, a2, a3, a4⟩ := HZ.out h0
        refine ⟨a1, a2, a3, own_lower (own_keep a4 (fun j hj => ?_)) (by simp)⟩
        have hj' : w.heap.size < j := by simp at hj; omega
        rw [Below.heap_setCell _ _ _ _ (by simp; omega), Below.heap_setCell _ _ _ _ (by simp; omega)]⟩
  case rest =>
    obtain ⟨F, sq, L, k, n, A', rfl, rfl, rfl, hF, hk, hB, hz⟩ := hcut
    obtain ⟨rfl, rfl, rfl, ho⟩ := hz H0.out
    have HB := Lib.hid hB
    have q0 : wc.cell? ⟨F, 0, none⟩ = some (.int .i64 (seqOf r : Nat)) := block_cell hk 0
    have q1 : wc.cell? ⟨F, 1, none⟩ = some (.slice A' (dataOf r).length k) := block_cell hk 1
    have q2 := (CC.out _ hB).2.2.1
    have q3 := (CC.out _ hB).2.2.2
    rw [HS0.out] at q0
    have he : ((nextE r : Int) != 0) = false := by rw [H0.out]; rfl
    have hs : ((seq : Int) != (seq : Int)) = false := by simp
    generalize nextE r = er at he ⊢
    have HROW := Lib.hid (own_below h.row hB)
    have HO := Lib.hid ho
    clear hz ho hB hc0 hc1 NN
    go_wp2_with fail
    go_quiet (fail)
    go_wp2_with fail
    have hdd : AllBytes (dataOf r) := (gr.bytes.drop 20).take _
    have hgs : g + 1 ≤ wc.heap.size := by have := HB.out.size; omega
    have q4 : wc.frozen? ⟨g, 3, none⟩ = false := block_free ((HB.out.block g hg).trans h.blk) 3
    have hge : ∀ k, vo.ownBlock = some k → g < k := fun k hk => by
      rcases h.row.2 with ⟨rfl, _⟩ | ⟨b, cap, cur, rfl, hb, _⟩
      · cases hk
      · have : b = k := by simpa [Value.ownBlock] using hk
        omega
    have hltv : ∀ k, vo.ownBlock = some k → k < w.heap.size := fun k hk => by
      rcases h.row.2 with ⟨rfl, _⟩ | ⟨b, cap, cur, rfl, hb, hh, _⟩
      · cases hk
      · have : b = k := by simpa [Value.ownBlock] using hk
        have := block_lt hh
        omega
    have hneF : some F ≠ vo.ownBlock := fun e => by have := hltv F e.symm; omega
    have hFc : F < wc.heap.size := block_lt hk
    have hne : some g ≠ vo.ownBlock := fun e => by have := hge g e.symm; omega
    have B4 : Below wc.heap.size wc ((wc.drewN (nq + 1)).alloc (Obj.cells #[Value.int IntKind.i64 (seq : Nat), Value.slice A' (dataOf r).length k] 41)) := (below_ddrewN (Below.refl _ _) _).alloc (Nat.le_refl _) _
    have q3' := (B4.cell (p := ⟨g, 3, none⟩) (by show g < _; omega)).trans q3
    go_region_law
      ((refine step_append_lies _ (by rfl) _ _ _ (by rfl) (g + 1) 41 i0 _ 2 32 (by rfl) hi hz0 hz1 hz2 (by rfl) (by omega) vo fs.length (frameCells fs) (by rfl) (own_below HROW.out ((below_ddrewN (Below.refl _ _) _).alloc (Nat.le_refl _) _)) ⟨wc.heap.size, 0, none⟩ 1 1 [.int .i64 (seq : Nat), .slice A' (dataOf r).length k] (by rfl) (by rfl) (World.news_of_block (heap_alloc_new _ _)) (by intro u hu; simp at hu; rcases hu with rfl | rfl <;> rfl) (by omega) (by unfold maxLen; omega) (by omega) (by simp; omega) (wc.heap.size + 1) (by simp) ?_
        intro gg cp w4 own4 grow4 hat4 hlt4
        have z3 : w4.cell? ⟨g, 3, none⟩ = some vo := (grow4.cell_far ⟨g, 3, none⟩ (by simp; omega) hne).trans ((B4.cell (p := ⟨g, 3, none⟩) (by show g < _; omega)).trans q3)
        have zF0 : w4.cell? ⟨F, 0, none⟩ = some (.int .i64 (seq : Nat)) := (grow4.cell_far ⟨F, 0, none⟩ (by simp; omega) hneF).trans ((B4.cell (p := ⟨F, 0, none⟩) hFc).trans q0)
        have zF1 : w4.cell? ⟨F, 1, none⟩ = some (.slice A' (dataOf r).length k) := (grow4.cell_far ⟨F, 1, none⟩ (by simp; omega) hneF).trans ((B4.cell (p := ⟨F, 1, none⟩) hFc).trans q1)
        have z3f : w4.frozen? ⟨g, 3, none⟩ = false := (grow4.frozen_far ⟨g, 3, none⟩ (by simp; omega) hne).trans ((B4.frozen (p := ⟨g, 3, none⟩) (by show g < _; omega)).trans q4)
        have z1 : w4.cell? ⟨g, 1, none⟩ = some (.int .i64 (at_ : Nat)) := (grow4.cell_far ⟨g, 1, none⟩ (by simp; omega) hne).trans ((B4.cell (p := ⟨g, 1, none⟩) (by show g < _; omega)).trans (CC.out _ HB.out).2.1)
        have z2 : w4.cell? ⟨g, 2, none⟩ = some (.int .i64 (seq : Nat)) := (grow4.cell_far ⟨g, 2, none⟩ (by simp; omega) hne).trans ((B4.cell (p := ⟨g, 2, none⟩) (by show g < _; omega)).trans q2)
        have z1f : w4.frozen? ⟨g, 1, none⟩ = false := (grow4.frozen_far ⟨g, 1, none⟩ (by simp; omega) hne).trans ((B4.frozen (p := ⟨g, 1, none⟩) (by show g < _; omega)).trans (block_free ((HB.out.block g hg).trans h.blk) 1))
        have z2f : w4.frozen? ⟨g, 2, none⟩ = false := (grow4.frozen_far ⟨g, 2, none⟩ (by simp; omega) hne).trans ((B4.frozen (p := ⟨g, 2, none⟩) (by show g < _; omega)).trans (block_free ((HB.out.block g hg).trans h.blk) 2))
        have GROW := Lib.hid grow4
        have OWN := Lib.hid own4
        clear own4 grow4))
    all_goals
      have w1e : IntKind.i64.wrap ((at_ : Int) + (20 + (lenOf r : Int))) = ((at_ + (20 + lenOf r) : Nat) : Int) := by rw [IntKind.wrap_i64]; omega
      have w2e : IntKind.i64.wrap ((seq : Int) + 1) = ((seq + 1 : Nat) : Int) := by rw [IntKind.wrap_i64]; omega
      go_wp2_with fail
      have E := scn_step h HB.out B4 GROW.out hdd HO.out OWN.out hge (at_ + (20 + lenOf r)) (seq + 1)
      exact bodyPost_ret (v := .bool true) (by simp [results, Try.results45, go_sem]) rfl ⟨rfl, E.1, _, A', k, E.2⟩
end Go.Proofs.Ythmmhbeafbdglaa
