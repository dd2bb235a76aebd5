/- To note a pair: the walk. Conditions: no more than 2^24 pairs. -/
import Derived.Test.YtpgncjfmaeiaaaaDoorIsEntry
set_option linter.unusedVariables false
namespace Go.Proofs.YtpgncjfmaeiaaaaDoor.Is
open Go.RowKit
open Go.Maps (Keyed)
/-- behind the first note -/
structure OneSt (w : World) (h : Sh) (a b : Gv) (ord : Bool) (met : PrL) (x : Int × Int) (W : World) : Prop where
  box : W.heap[h.p]? = some (.cells (pCells h a b ord (twN met)) 70 (0, 0))
  q0 : W.cell? ⟨w.heap.size, 0, none⟩ = some (.int .i64 x.1)
  q1 : W.cell? ⟨w.heap.size, 1, none⟩ = some (.int .i64 x.2)
  keep : Keep h.S w W
  maps : ∃ fm fl fr, MF W 55 h.M (met.length + 1) (put1 fm (pairV x) (.bool true)) ∧ MF W 3 h.L met.length fl ∧ MF W 3 h.R met.length fr ∧ PIs fm fl fr met
theorem OneSt.below {w : World} {h : Sh} {a b : Gv} {ord : Bool} {met : PrL} {x : Int × Int} {W W' : World} (O : OneSt w h a b ord met x W) (hb : Below W.heap.size W W') : OneSt w h a b ord met x W' := by
  obtain ⟨fm, fl, fr, h1, h2, h3, h4⟩ := O.maps
  exact ⟨(hb.block _ (blt O.box)).trans O.box, (hb.cell (p := ⟨w.heap.size, 0, none⟩) (block_lt_of_cell O.q0)).trans O.q0, (hb.cell (p := ⟨w.heap.size, 1, none⟩) (block_lt_of_cell O.q1)).trans O.q1, O.keep.trans (Keep.of_below hb), fm, fl, fr, h1.below hb, h2.below hb, h3.below hb, h4⟩
theorem OneSt.left {w : World} {h : Sh} {a b : Gv} {ord : Bool} {met : PrL} {x : Int × Int} {W : World} (O : OneSt w h a b ord met x W) (hx : wf64 x.1) : ∃ y o, (Instr.lookup 68 (.map (some h.L)) (.int .i64 x.1) true).run Tryd.prog W = .ok (.tuple #[.int .i64 y, .bool o]) W ∧ ((o = false ∧ leftOf met x.1 = none) ∨ (o = true ∧ leftOf met x.1 = some y)) := by
  obtain ⟨fm, fl, fr, h1, h2, h3, h4⟩ := O.maps
  rw [h2.look_ok keyed_int Tryd.underlying68 (zint _) rfl (keyOf_int hx), h4.l]
  cases leftOf met x.1 with
  | none => exact ⟨0, false, rfl, Or.inl ⟨rfl, rfl⟩⟩
  | some y => exact ⟨y, true, rfl, Or.inr ⟨rfl, rfl⟩⟩
theorem OneSt.right {w : World} {h : Sh} {a b : Gv} {ord : Bool} {met : PrL} {x : Int × Int} {W : World} (O : OneSt w h a b ord met x W) (hx : wf64 x.2) : ∃ y o, (Instr.lookup 68 (.map (some h.R)) (.int .i64 x.2) true).run Tryd.prog W = .ok (.tuple #[.int .i64 y, .bool o]) W ∧ ((o = false ∧ rightOf met x.2 = none) ∨ (o = true ∧ rightOf met x.2 = some y)) := by
  obtain ⟨fm, fl, fr, h1, h2, h3, h4⟩ := O.maps
  rw [h3.look_ok keyed_int Tryd.underlying68 (zint _) rfl (keyOf_int hx), h4.r]
  cases rightOf met x.2 with
  | none => exact ⟨0, false, rfl, Or.inl ⟨rfl, rfl⟩⟩
  | some y => exact ⟨y, true, rfl, Or.inr ⟨rfl, rfl⟩⟩
/-- what the last region does: the two entries -/
structure Fin2 (w : World) (h : Sh) (a b : Gv) (ord : Bool) (met : PrL) (x : Int × Int) (W6 : World) (v1 v2 : Value) (s1 s2 : Nat) (W7 W8 W9 W10 : World) : Prop where
  r1 : (Instr.mapEntry 68 (.map (some h.L)) (.int .i64 x.1)).run Tryd.prog W6.drew = .ok (.tuple #[v1, .int .i64 (s1 : Int)]) W7
  r2 : (Instr.entryStore 68 (.map (some h.L)) (.int .i64 (s1 : Int)) (.int .i64 x.2)).run Tryd.prog W7 = .ok () W8
  r3 : (Instr.mapEntry 68 (.map (some h.R)) (.int .i64 x.2)).run Tryd.prog W8 = .ok (.tuple #[v2, .int .i64 (s2 : Int)]) W9
  r4 : (Instr.entryStore 68 (.map (some h.R)) (.int .i64 (s2 : Int)) (.int .i64 x.1)).run Tryd.prog W9 = .ok () W10
  k7 : ∀ a v, a.block ≠ h.L → a.block ≠ h.R → W6.cell? a = some v → W7.cell? a = some v
  k8 : ∀ a v, a.block ≠ h.L → a.block ≠ h.R → W6.cell? a = some v → W8.cell? a = some v
  k9 : ∀ a v, a.block ≠ h.L → a.block ≠ h.R → W6.cell? a = some v → W9.cell? a = some v
  k10 : ∀ a v, a.block ≠ h.L → a.block ≠ h.R → W6.cell? a = some v → W10.cell? a = some v
  fin : PIn W10 h a b ord (x :: met)
  keep : Keep h.S w W10
theorem OneSt.fin2 {w : World} {h : Sh} {a b : Gv} {ord : Bool} {met : PrL} {x : Int × Int} {W : World} (O : OneSt w h a b ord met x W) (AP : h.Apart) (h1 : wf64 x.1) (h2 : wf64 x.2) (hm : met.length ≤ 20000000) :
    ∃ v1 v2 s1 s2 W7 W8 W9 W10, Fin2 w h a b ord met x (W.setCell ⟨h.p, 8, none⟩ (.bool (twN (x :: met)))) v1 v2 s1 s2 W7 W8 W9 W10 := by
  obtain ⟨fm, fl, fr, m1, m2, m3, m4⟩ := O.maps
  have hg := setCell_grown W h.p 8 (.bool (twN (x :: met)))
  have bx : (W.setCell ⟨h.p, 8, none⟩ (.bool (twN (x :: met)))).heap[h.p]? = some (.cells (pCells h a b ord (twN (x :: met))) 70 (0, 0)) := block_set O.box 8 _
  have kp : Keep h.S w (W.setCell ⟨h.p, 8, none⟩ (.bool (twN (x :: met)))) := O.keep.trans (Keep.of_grown hg (Or.inl rfl))
  have m1' := m1.kept hg (by intro e; injection e with e; exact AP.pm e.symm)
  have m2' := m2.kept hg (by intro e; injection e with e; exact AP.pl e.symm)
  have m3' := m3.kept hg (by intro e; injection e with e; exact AP.pr e.symm)
  generalize (W.setCell ⟨h.p, 8, none⟩ (.bool (twN (x :: met)))) = W6 at bx kp m1' m2' m3' ⊢
  have dd : Below W6.heap.size W6 W6.drew := (Below.refl _ _).drew
  obtain ⟨v1, s1, o1, e1, c1⟩ := (m2'.below dd).entry keyed_int Tryd.underlying68 (fun u => zint u) (by unfold maxLen; omega) (keyOf_int h1)
  have g1 := setBlock_grown W6.drew h.L o1
  have hL : h.L < W6.drew.heap.size := (m2'.below dd).lt
  obtain ⟨W8, e2, m8, g2⟩ := c1 (Go.ChangeMaps.setBlock W6.drew h.L o1) (.int .i64 x.2) _ _ (setBlock_heap hL o1) rfl
  have n1 := (m1'.below dd).kept g1 (by intro e; injection e with e; exact AP.ml e)
  have n1 := n1.kept g2 (by intro e; injection e with e; exact AP.ml e)
  have n3 := (m3'.below dd).kept g1 (by intro e; injection e with e; exact AP.lr e.symm)
  have n3 := n3.kept g2 (by intro e; injection e with e; exact AP.lr e.symm)
  obtain ⟨v2, s2, o2, e3, c2⟩ := n3.entry keyed_int Tryd.underlying68 (fun u => zint u) (by unfold maxLen; omega) (keyOf_int h2)
  have g3 := setBlock_grown W8 h.R o2
  obtain ⟨W10, e4, m10, g4⟩ := c2 (Go.ChangeMaps.setBlock W8 h.R o2) (.int .i64 x.1) _ _ (setBlock_heap n3.lt o2) rfl
  have p1 := (n1.kept g3 (by intro e; injection e with e; exact AP.mr e)).kept g4 (by intro e; injection e with e; exact AP.mr e)
  have p2 := (m8.kept g3 (by intro e; injection e with e; exact AP.lr e)).kept g4 (by intro e; injection e with e; exact AP.lr e)
  have q7 : ∀ a v, a.block ≠ h.L → a.block ≠ h.R → W6.cell? a = some v → (Go.ChangeMaps.setBlock W6.drew h.L o1).cell? a = some v := fun a v ha hb hc => g1.cell (show W6.drew.cell? a = some v from hc) (by intro e; injection e with e; exact ha e)
  have q8 : ∀ a v, a.block ≠ h.L → a.block ≠ h.R → W6.cell? a = some v → W8.cell? a = some v := fun a v ha hb hc => g2.cell (q7 a v ha hb hc) (by intro e; injection e with e; exact ha e)
  have q9 : ∀ a v, a.block ≠ h.L → a.block ≠ h.R → W6.cell? a = some v → (Go.ChangeMaps.setBlock W8 h.R o2).cell? a = some v := fun a v ha hb hc => g3.cell (q8 a v ha hb hc) (by intro e; injection e with e; exact hb e)
  have q10 : ∀ a v, a.block ≠ h.L → a.block ≠ h.R → W6.cell? a = some v → W10.cell? a = some v := fun a v ha hb hc => g4.cell (q9 a v ha hb hc) (by intro e; injection e with e; exact hb e)
  have hp := blt bx
  have hz1 : W6.heap.size ≤ (Go.ChangeMaps.setBlock W6.drew h.L o1).heap.size := g1.size
  have hz3 := g3.size
  refine ⟨v1, v2, s1, s2, _, W8, _, W10, e1, e2, e3, e4, q7, q8, q9, q10, ⟨?_, AP, _, _, _, p1, p2, m10, m4.put x⟩, ?_⟩
  · have b1 : (Go.ChangeMaps.setBlock W6.drew h.L o1).heap[h.p]? = W6.heap[h.p]? := g1.block h.p hp (by intro e; injection e with e; exact AP.pl e)
    have b2 := g2.block h.p (Nat.lt_of_lt_of_le hp hz1) (by intro e; injection e with e; exact AP.pl e)
    have hp8 : h.p < W8.heap.size := Nat.lt_of_lt_of_le hp (Nat.le_trans hz1 g2.size)
    have b3 := g3.block h.p hp8 (by intro e; injection e with e; exact AP.pr e)
    have b4 := g4.block h.p (Nat.lt_of_lt_of_le hp8 hz3) (by intro e; injection e with e; exact AP.pr e)
    rw [b4, b3, b2, b1, bx]
  · exact ((((kp.trans (Keep.of_below dd)).trans (Keep.of_grown g1 (Or.inr (Or.inr (Or.inl rfl))))).trans (Keep.of_grown g2 (Or.inr (Or.inr (Or.inl rfl))))).trans (Keep.of_grown g3 (Or.inr (Or.inr (Or.inr rfl))))).trans (Keep.of_grown g4 (Or.inr (Or.inr (Or.inr rfl))))
def OnePost (h : Sh) (a b : Gv) (ord : Bool) (met : PrL) (x : Int × Int) (w : World) (e : Ending) (w' : World) : Prop :=
  e = .returned (.bool (!decide (x ∈ met))) ∧ PIn w' h a b ord (if x ∈ met then met else x :: met) ∧ Keep h.S w w'
set_option maxRecDepth 100000 in
set_option maxHeartbeats 3200000 in
theorem one_any (h : Sh) (a b : Gv) (ord : Bool) (met : PrL) (x : Int × Int) (w : World) (P : PIn w h a b ord met) (ha : wf64 x.1) (hb : wf64 x.2) (hm : met.length ≤ 20000000) :
    Calls Tryd.prog 41 #[.pointer (some ⟨h.p, 0, none⟩), pairV x] w (OnePost h a b ord met x w) := by
  obtain ⟨kx, hkx⟩ := keyOf_pair ha hb
  have B1 : Hid (Below w.heap.size w (w.alloc (.cells #[.int .i64 x.1, .int .i64 x.2] 55))) := ext_world w _
  have P1 : Hid (PIn (w.alloc (.cells #[.int .i64 x.1, .int .i64 x.2] 55)) h a b ord met) := P.below B1.out
  have c3 := bcell P1.out.box 5
  have q0 := bcell (heap_new w #[.int .i64 x.1, .int .i64 x.2] 55) 0
  have q1 := bcell (heap_new w #[.int .i64 x.1, .int .i64 x.2] 55) 1
  have L1 : (Instr.lookup 67 (.map (some h.M)) (.agg #[.int .i64 x.1, .int .i64 x.2]) false).run Tryd.prog (w.alloc (.cells #[.int .i64 x.1, .int .i64 x.2] 55)).drew = .ok (.bool (decide (x ∈ met))) (w.alloc (.cells #[.int .i64 x.1, .int .i64 x.2] 55)).drew := by
    obtain ⟨fm, fl, fr, h1, h2, h3, h4⟩ := P1.out.maps
    rw [(h1.below (Below.refl _ _).drew).look keyed_pair Tryd.underlying67 (zbool _) rfl hkx]
    have h9 : fm (.agg #[.int .i64 x.1, .int .i64 x.2]) = if x ∈ met then some (.bool true) else none := h4.m x
    rw [h9]
    by_cases hx : x ∈ met
    · rw [if_pos hx, decide_eq_true hx]; rfl
    · rw [if_neg hx, decide_eq_false hx]; rfl
  have HK : Hid (Keep h.S w (w.alloc (.cells #[.int .i64 x.1, .int .i64 x.2] 55)).drew) := Keep.of_below (dr B1.out 1)
  have P2 : Hid (PIn (w.alloc (.cells #[.int .i64 x.1, .int .i64 x.2] 55)).drew h a b ord met) := P1.out.below (dr (Below.refl _ _) 1)
  unfold OnePost pairV
  unfold pCells at c3
  by_cases hx : x ∈ met
  · rw [if_pos hx, decide_eq_true hx]
    rw [decide_eq_true hx] at L1
    clear P hx
    go_enter Tryd.func41, Tryd.ntmps41
    go_wp2_with fail
    refine wp_region_still_lit (by kernel_rfl) (by kernel_rfl) ?_
    change wpStill _ _ (w.alloc (.cells #[.int .i64 x.1, .int .i64 x.2] 55)).drew _ _ _
    iterate 6 still_step
    refine wpStill_nil ?_
    go_wp2_with fail
    go_ret
    exact ⟨rfl, P2.out, HK.out⟩
  rw [if_neg hx, decide_eq_false hx]
  rw [decide_eq_false hx] at L1
  go_enter Tryd.func41, Tryd.ntmps41
  go_wp2_with fail
  refine wp_region_still_lit (by kernel_rfl) (by kernel_rfl) ?_
  change wpStill _ _ (w.alloc (.cells #[.int .i64 x.1, .int .i64 x.2] 55)).drew _ _ _
  iterate 6 still_step
  refine wpStill_nil ?_
  change Exit.then _ _ _ _ (w.alloc (.cells #[.int .i64 x.1, .int .i64 x.2] 55)).drew
  replace q0 : (w.alloc (.cells #[.int .i64 x.1, .int .i64 x.2] 55)).drew.cell? ⟨w.heap.size, 0, none⟩ = some (.int .i64 x.1) := q0
  replace q1 : (w.alloc (.cells #[.int .i64 x.1, .int .i64 x.2] 55)).drew.cell? ⟨w.heap.size, 1, none⟩ = some (.int .i64 x.2) := q1
  have hbx : Hid (w.heap.size < (w.alloc (.cells #[.int .i64 x.1, .int .i64 x.2] 55)).drew.heap.size) := block_lt_of_cell q0
  have HSX : Hid (¬ h.S w.heap.size) := by
    rintro (e | e | e | e)
    · have := blt P.box; omega
    · obtain ⟨fm, fl, fr, h1, h2, h3, h4⟩ := P.maps; have := h1.lt; omega
    · obtain ⟨fm, fl, fr, h1, h2, h3, h4⟩ := P.maps; have := h2.lt; omega
    · obtain ⟨fm, fl, fr, h1, h2, h3, h4⟩ := P.maps; have := h3.lt; omega
  have AP := Lib.hid P.apart
  clear P1 L1 c3 B1 P
  generalize (w.alloc (.cells #[.int .i64 x.1, .int .i64 x.2] 55)).drew = V at q0 q1 HK P2 hbx ⊢
  have hx2 := Lib.hid hx
  have TW : Hid (twN (x :: met) = (twN met || ((leftOf met x.1).isSome || (rightOf met x.2).isSome))) := by show _ = _; rw [← share_iff]; rfl
  have LN : Hid (∀ y, leftOf met x.1 = some y → (y == x.2) = false) := fun y hy => beq_eq_false_iff_ne.2 fun e => hx (by have h9 := leftOf_mem hy; rw [e] at h9; exact h9)
  have RN : Hid (∀ y, rightOf met x.2 = some y → (y == x.1) = false) := fun y hy => beq_eq_false_iff_ne.2 fun e => hx (by have h9 := rightOf_mem hy; rw [e] at h9; exact h9)
  clear hx
  -- the set of pairs
  obtain ⟨w3, hup, h3⟩ : ∃ w3, (Instr.mapUpdate 67 (.map (some h.M)) (.agg #[.int .i64 x.1, .int .i64 x.2]) (.bool true)).run Tryd.prog V.drew = .ok () w3 ∧ V.drew.grownBy w3 (some h.M) ∧
      ∃ fm fl fr, MF w3 55 h.M (met.length + 1) (put1 fm (pairV x) (.bool true)) ∧ MF w3 3 h.L met.length fl ∧ MF w3 3 h.R met.length fr ∧ PIs fm fl fr met := by
    obtain ⟨fm, fl, fr, h1, h2, h3, h4⟩ := P2.out.maps
    obtain ⟨w3, e1, e2, e3⟩ := (h1.below (Below.refl _ _).drew).update keyed_pair Tryd.underlying67 (by unfold maxLen; omega) hkx (val := .bool true) rfl
    exact ⟨w3, e1, e3, fm, fl, fr, e2, (h2.below (Below.refl _ _).drew).kept e3 (by intro e; injection e with e; exact AP.out.ml e.symm), (h3.below (Below.refl _ _).drew).kept e3 (by intro e; injection e with e; exact AP.out.mr e.symm), h4⟩
  have G3 := Lib.hid h3.1
  have M3 := Lib.hid h3.2
  have HK3 : Hid (Keep h.S w w3) := (HK.out.trans (Keep.of_below (Below.refl _ _).drew)).trans (Keep.of_grown G3.out (Or.inr (Or.inl rfl)))
  have bx3 : w3.heap[h.p]? = some (.cells (pCells h a b ord (twN met)) 70 (0, 0)) := (G3.out.block h.p (by have h9 := blt P2.out.box; exact h9) (by intro e; injection e with e; exact AP.out.pm e)).trans P2.out.box
  have BX3 := Lib.hid bx3
  have q03 : w3.cell? ⟨w.heap.size, 0, none⟩ = some (.int .i64 x.1) := G3.out.cell (show V.drew.cell? _ = _ from q0) (by intro e; injection e with e; exact HSX.out (Or.inr (Or.inl e)))
  have q13 : w3.cell? ⟨w.heap.size, 1, none⟩ = some (.int .i64 x.2) := G3.out.cell (show V.drew.cell? _ = _ from q1) (by intro e; injection e with e; exact HSX.out (Or.inr (Or.inl e)))
  have d5 := bcell P2.out.box 5
  unfold pCells at d5
  clear h3 bx3
  go_wp2_with fail
  refine wp_region_still_tail 5 (by kernel_rfl) (by kernel_rfl) ?_
  simp only [List.take_succ_cons, List.take_zero, List.drop_succ_cons, List.drop_zero]
  change wpStill _ _ V.drew _ _ _
  iterate 5 still_step
  refine wpStill_nil ?_
  change wpList _ _ _ _ _ V.drew
  have O3 : Hid (OneSt w h a b ord met x w3) := ⟨BX3.out, q03, q13, HK3.out, M3.out⟩
  have O4 : Hid (OneSt w h a b ord met x w3.drew) := O3.out.below (Below.refl _ _).drew
  have O5 : Hid (OneSt w h a b ord met x w3.drew.drew) := O4.out.below (Below.refl _ _).drew
  obtain ⟨y4, o4, L4, c4⟩ := O4.out.left ha
  obtain ⟨y5, o5, L5, c5⟩ := O5.out.right hb
  have C4 := Lib.hid c4
  have C5 := Lib.hid c5
  have e4 := bcell BX3.out 6
  have e5 := bcell BX3.out 7
  unfold pCells at e4 e5
  clear c4 c5 d5 G3 M3 HK HK3 q0 q1 P2 BX3
  go_wp2_with fail
  refine wp_region_still_lit (by kernel_rfl) (by kernel_rfl) ?_
  change wpStill _ _ w3.drew _ _ _
  iterate 12 still_step
  refine wpStill_nil ?_
  change Exit.then _ _ _ _ w3.drew
  go_wp2_with fail
  refine wp_region_still_lit (by kernel_rfl) (by kernel_rfl) ?_
  change wpStill _ _ w3.drew.drew _ _ _
  iterate 12 still_step
  refine wpStill_nil ?_
  change Exit.then _ _ _ _ w3.drew.drew
  clear L4 L5 O4 O3 e4 e5 hup q03 q13
  generalize w3.drew.drew = V6 at O5 ⊢
  obtain ⟨tn, htn⟩ : ∃ tn, tn = twN (x :: met) := ⟨_, rfl⟩
  have HTN : Hid (tn = (twN met || (o4 || o5))) := by
    show _ = _
    rw [htn, TW.out]
    rcases C4.out with ⟨h1, h2⟩ | ⟨h1, h2⟩ <;> rcases C5.out with ⟨h3, h4⟩ | ⟨h3, h4⟩ <;> rw [h1, h2, h3, h4] <;> rfl
  have N4 : Hid (o4 = true → (y4 == x.2) = false) := fun ho => by
    rcases C4.out with ⟨h1, h2⟩ | ⟨h1, h2⟩
    · rw [h1] at ho; cases ho
    · exact LN.out _ h2
  have N5 : Hid (o5 = true → (y5 == x.1) = false) := fun ho => by
    rcases C5.out with ⟨h1, h2⟩ | ⟨h1, h2⟩
    · rw [h1] at ho; cases ho
    · exact RN.out _ h2
  have HTW := Lib.hid htn
  have q0 := O5.out.q0
  have q1 := O5.out.q1
  have b6 := bcell O5.out.box 6
  have b7 := bcell O5.out.box 7
  have b8 := bcell O5.out.box 8
  have f8 := bfree O5.out.box 8
  unfold pCells at b6 b7 b8
  generalize twN met = tw at b6 b7 b8 HTN
  clear htn C4 C5 LN RN TW
  cases tw
  · cases o4
    · cases o5
      · obtain rfl : tn = false := HTN.out
        obtain ⟨v1, v2, s1, s2, W7, W8, W9, W10, F⟩ := O5.out.fin2 AP.out ha hb hm
        rw [← HTW.out] at F
        have r1 := F.r1
        have r2 := F.r2
        have r3 := F.r3
        have r4 := F.r4
        have ap := AP.out
        have z6 : (V6.setCell ⟨h.p, 8, none⟩ (.bool false)).cell? ⟨h.p, 6, none⟩ = some (.map (some h.L)) := bcell (block_set O5.out.box 8 (.bool false)) 6
        have z7 : (V6.setCell ⟨h.p, 8, none⟩ (.bool false)).cell? ⟨h.p, 7, none⟩ = some (.map (some h.R)) := bcell (block_set O5.out.box 8 (.bool false)) 7
        have z0 : (V6.setCell ⟨h.p, 8, none⟩ (.bool false)).cell? ⟨w.heap.size, 0, none⟩ = some (.int .i64 x.1) := setCell_cell q0 (fun e => HSX.out (Or.inl e))
        have z1 : (V6.setCell ⟨h.p, 8, none⟩ (.bool false)).cell? ⟨w.heap.size, 1, none⟩ = some (.int .i64 x.2) := setCell_cell q1 (fun e => HSX.out (Or.inl e))
        have D0 : Hid ((V6.setCell ⟨h.p, 8, none⟩ (.bool false)).drew.cell? ⟨h.p, 6, none⟩ = some (.map (some h.L)) ∧ (V6.setCell ⟨h.p, 8, none⟩ (.bool false)).drew.cell? ⟨h.p, 7, none⟩ = some (.map (some h.R)) ∧ (V6.setCell ⟨h.p, 8, none⟩ (.bool false)).drew.cell? ⟨w.heap.size, 0, none⟩ = some (.int .i64 x.1) ∧ (V6.setCell ⟨h.p, 8, none⟩ (.bool false)).drew.cell? ⟨w.heap.size, 1, none⟩ = some (.int .i64 x.2)) := ⟨z6, z7, z0, z1⟩
        have nl : Hid (w.heap.size ≠ h.L ∧ w.heap.size ≠ h.R) := ⟨fun e => HSX.out (Or.inr (Or.inr (Or.inl e))), fun e => HSX.out (Or.inr (Or.inr (Or.inr e)))⟩
        have D7 : Hid (W7.cell? ⟨h.p, 6, none⟩ = some (.map (some h.L)) ∧ W7.cell? ⟨h.p, 7, none⟩ = some (.map (some h.R)) ∧ W7.cell? ⟨w.heap.size, 0, none⟩ = some (.int .i64 x.1) ∧ W7.cell? ⟨w.heap.size, 1, none⟩ = some (.int .i64 x.2)) := ⟨F.k7 _ _ ap.pl ap.pr z6, F.k7 _ _ ap.pl ap.pr z7, F.k7 _ _ nl.out.1 nl.out.2 z0, F.k7 _ _ nl.out.1 nl.out.2 z1⟩
        have D8 : Hid (W8.cell? ⟨h.p, 6, none⟩ = some (.map (some h.L)) ∧ W8.cell? ⟨h.p, 7, none⟩ = some (.map (some h.R)) ∧ W8.cell? ⟨w.heap.size, 0, none⟩ = some (.int .i64 x.1) ∧ W8.cell? ⟨w.heap.size, 1, none⟩ = some (.int .i64 x.2)) := ⟨F.k8 _ _ ap.pl ap.pr z6, F.k8 _ _ ap.pl ap.pr z7, F.k8 _ _ nl.out.1 nl.out.2 z0, F.k8 _ _ nl.out.1 nl.out.2 z1⟩
        have D9 : Hid (W9.cell? ⟨h.p, 6, none⟩ = some (.map (some h.L)) ∧ W9.cell? ⟨h.p, 7, none⟩ = some (.map (some h.R)) ∧ W9.cell? ⟨w.heap.size, 0, none⟩ = some (.int .i64 x.1) ∧ W9.cell? ⟨w.heap.size, 1, none⟩ = some (.int .i64 x.2)) := ⟨F.k9 _ _ ap.pl ap.pr z6, F.k9 _ _ ap.pl ap.pr z7, F.k9 _ _ nl.out.1 nl.out.2 z0, F.k9 _ _ nl.out.1 nl.out.2 z1⟩
        have D10 : Hid (W10.cell? ⟨h.p, 6, none⟩ = some (.map (some h.L)) ∧ W10.cell? ⟨h.p, 7, none⟩ = some (.map (some h.R)) ∧ W10.cell? ⟨w.heap.size, 0, none⟩ = some (.int .i64 x.1) ∧ W10.cell? ⟨w.heap.size, 1, none⟩ = some (.int .i64 x.2)) := ⟨F.k10 _ _ ap.pl ap.pr z6, F.k10 _ _ ap.pl ap.pr z7, F.k10 _ _ nl.out.1 nl.out.2 z0, F.k10 _ _ nl.out.1 nl.out.2 z1⟩
        have FI : Hid (PIn W10 h a b ord (x :: met) ∧ Keep h.S w W10) := ⟨F.fin, F.keep⟩
        clear F ap
        go_wp2_with fail
        go_region_held3 (fun w' => w'.cell? ⟨h.p, 6, none⟩ = some (.map (some h.L)) ∧ w'.cell? ⟨h.p, 7, none⟩ = some (.map (some h.R)) ∧ w'.cell? ⟨w.heap.size, 0, none⟩ = some (.int .i64 x.1) ∧ w'.cell? ⟨w.heap.size, 1, none⟩ = some (.int .i64 x.2))
          (first | exact D0.out | exact D7.out | exact D8.out | exact D9.out | exact D10.out)
          (fail)
        all_goals
          go_wp2_with fail
          go_ret
          exact ⟨rfl, FI.out.1, FI.out.2⟩
      · obtain rfl : tn = true := HTN.out
        have n5 := N5.out rfl
        have n5' : (y5 != x.1) = true := by unfold bne; rw [n5]; rfl
        obtain ⟨v1, v2, s1, s2, W7, W8, W9, W10, F⟩ := O5.out.fin2 AP.out ha hb hm
        rw [← HTW.out] at F
        have r1 := F.r1
        have r2 := F.r2
        have r3 := F.r3
        have r4 := F.r4
        have ap := AP.out
        have z6 : (V6.setCell ⟨h.p, 8, none⟩ (.bool true)).cell? ⟨h.p, 6, none⟩ = some (.map (some h.L)) := bcell (block_set O5.out.box 8 (.bool true)) 6
        have z7 : (V6.setCell ⟨h.p, 8, none⟩ (.bool true)).cell? ⟨h.p, 7, none⟩ = some (.map (some h.R)) := bcell (block_set O5.out.box 8 (.bool true)) 7
        have z0 : (V6.setCell ⟨h.p, 8, none⟩ (.bool true)).cell? ⟨w.heap.size, 0, none⟩ = some (.int .i64 x.1) := setCell_cell q0 (fun e => HSX.out (Or.inl e))
        have z1 : (V6.setCell ⟨h.p, 8, none⟩ (.bool true)).cell? ⟨w.heap.size, 1, none⟩ = some (.int .i64 x.2) := setCell_cell q1 (fun e => HSX.out (Or.inl e))
        have D0 : Hid ((V6.setCell ⟨h.p, 8, none⟩ (.bool true)).drew.cell? ⟨h.p, 6, none⟩ = some (.map (some h.L)) ∧ (V6.setCell ⟨h.p, 8, none⟩ (.bool true)).drew.cell? ⟨h.p, 7, none⟩ = some (.map (some h.R)) ∧ (V6.setCell ⟨h.p, 8, none⟩ (.bool true)).drew.cell? ⟨w.heap.size, 0, none⟩ = some (.int .i64 x.1) ∧ (V6.setCell ⟨h.p, 8, none⟩ (.bool true)).drew.cell? ⟨w.heap.size, 1, none⟩ = some (.int .i64 x.2)) := ⟨z6, z7, z0, z1⟩
        have nl : Hid (w.heap.size ≠ h.L ∧ w.heap.size ≠ h.R) := ⟨fun e => HSX.out (Or.inr (Or.inr (Or.inl e))), fun e => HSX.out (Or.inr (Or.inr (Or.inr e)))⟩
        have D7 : Hid (W7.cell? ⟨h.p, 6, none⟩ = some (.map (some h.L)) ∧ W7.cell? ⟨h.p, 7, none⟩ = some (.map (some h.R)) ∧ W7.cell? ⟨w.heap.size, 0, none⟩ = some (.int .i64 x.1) ∧ W7.cell? ⟨w.heap.size, 1, none⟩ = some (.int .i64 x.2)) := ⟨F.k7 _ _ ap.pl ap.pr z6, F.k7 _ _ ap.pl ap.pr z7, F.k7 _ _ nl.out.1 nl.out.2 z0, F.k7 _ _ nl.out.1 nl.out.2 z1⟩
        have D8 : Hid (W8.cell? ⟨h.p, 6, none⟩ = some (.map (some h.L)) ∧ W8.cell? ⟨h.p, 7, none⟩ = some (.map (some h.R)) ∧ W8.cell? ⟨w.heap.size, 0, none⟩ = some (.int .i64 x.1) ∧ W8.cell? ⟨w.heap.size, 1, none⟩ = some (.int .i64 x.2)) := ⟨F.k8 _ _ ap.pl ap.pr z6, F.k8 _ _ ap.pl ap.pr z7, F.k8 _ _ nl.out.1 nl.out.2 z0, F.k8 _ _ nl.out.1 nl.out.2 z1⟩
        have D9 : Hid (W9.cell? ⟨h.p, 6, none⟩ = some (.map (some h.L)) ∧ W9.cell? ⟨h.p, 7, none⟩ = some (.map (some h.R)) ∧ W9.cell? ⟨w.heap.size, 0, none⟩ = some (.int .i64 x.1) ∧ W9.cell? ⟨w.heap.size, 1, none⟩ = some (.int .i64 x.2)) := ⟨F.k9 _ _ ap.pl ap.pr z6, F.k9 _ _ ap.pl ap.pr z7, F.k9 _ _ nl.out.1 nl.out.2 z0, F.k9 _ _ nl.out.1 nl.out.2 z1⟩
        have D10 : Hid (W10.cell? ⟨h.p, 6, none⟩ = some (.map (some h.L)) ∧ W10.cell? ⟨h.p, 7, none⟩ = some (.map (some h.R)) ∧ W10.cell? ⟨w.heap.size, 0, none⟩ = some (.int .i64 x.1) ∧ W10.cell? ⟨w.heap.size, 1, none⟩ = some (.int .i64 x.2)) := ⟨F.k10 _ _ ap.pl ap.pr z6, F.k10 _ _ ap.pl ap.pr z7, F.k10 _ _ nl.out.1 nl.out.2 z0, F.k10 _ _ nl.out.1 nl.out.2 z1⟩
        have FI : Hid (PIn W10 h a b ord (x :: met) ∧ Keep h.S w W10) := ⟨F.fin, F.keep⟩
        clear F ap
        go_wp2_with fail
        go_region_held3 (fun w' => w'.cell? ⟨h.p, 6, none⟩ = some (.map (some h.L)) ∧ w'.cell? ⟨h.p, 7, none⟩ = some (.map (some h.R)) ∧ w'.cell? ⟨w.heap.size, 0, none⟩ = some (.int .i64 x.1) ∧ w'.cell? ⟨w.heap.size, 1, none⟩ = some (.int .i64 x.2))
          (first | exact D0.out | exact D7.out | exact D8.out | exact D9.out | exact D10.out)
          (fail)
        all_goals
          go_wp2_with fail
          go_ret
          exact ⟨rfl, FI.out.1, FI.out.2⟩
    · cases o5
      · obtain rfl : tn = true := HTN.out
        have n4 := N4.out rfl
        have n4' : (y4 != x.2) = true := by unfold bne; rw [n4]; rfl
        obtain ⟨v1, v2, s1, s2, W7, W8, W9, W10, F⟩ := O5.out.fin2 AP.out ha hb hm
        rw [← HTW.out] at F
        have r1 := F.r1
        have r2 := F.r2
        have r3 := F.r3
        have r4 := F.r4
        have ap := AP.out
        have z6 : (V6.setCell ⟨h.p, 8, none⟩ (.bool true)).cell? ⟨h.p, 6, none⟩ = some (.map (some h.L)) := bcell (block_set O5.out.box 8 (.bool true)) 6
        have z7 : (V6.setCell ⟨h.p, 8, none⟩ (.bool true)).cell? ⟨h.p, 7, none⟩ = some (.map (some h.R)) := bcell (block_set O5.out.box 8 (.bool true)) 7
        have z0 : (V6.setCell ⟨h.p, 8, none⟩ (.bool true)).cell? ⟨w.heap.size, 0, none⟩ = some (.int .i64 x.1) := setCell_cell q0 (fun e => HSX.out (Or.inl e))
        have z1 : (V6.setCell ⟨h.p, 8, none⟩ (.bool true)).cell? ⟨w.heap.size, 1, none⟩ = some (.int .i64 x.2) := setCell_cell q1 (fun e => HSX.out (Or.inl e))
        have D0 : Hid ((V6.setCell ⟨h.p, 8, none⟩ (.bool true)).drew.cell? ⟨h.p, 6, none⟩ = some (.map (some h.L)) ∧ (V6.setCell ⟨h.p, 8, none⟩ (.bool true)).drew.cell? ⟨h.p, 7, none⟩ = some (.map (some h.R)) ∧ (V6.setCell ⟨h.p, 8, none⟩ (.bool true)).drew.cell? ⟨w.heap.size, 0, none⟩ = some (.int .i64 x.1) ∧ (V6.setCell ⟨h.p, 8, none⟩ (.bool true)).drew.cell? ⟨w.heap.size, 1, none⟩ = some (.int .i64 x.2)) := ⟨z6, z7, z0, z1⟩
        have nl : Hid (w.heap.size ≠ h.L ∧ w.heap.size ≠ h.R) := ⟨fun e => HSX.out (Or.inr (Or.inr (Or.inl e))), fun e => HSX.out (Or.inr (Or.inr (Or.inr e)))⟩
        have D7 : Hid (W7.cell? ⟨h.p, 6, none⟩ = some (.map (some h.L)) ∧ W7.cell? ⟨h.p, 7, none⟩ = some (.map (some h.R)) ∧ W7.cell? ⟨w.heap.size, 0, none⟩ = some (.int .i64 x.1) ∧ W7.cell? ⟨w.heap.size, 1, none⟩ = some (.int .i64 x.2)) := ⟨F.k7 _ _ ap.pl ap.pr z6, F.k7 _ _ ap.pl ap.pr z7, F.k7 _ _ nl.out.1 nl.out.2 z0, F.k7 _ _ nl.out.1 nl.out.2 z1⟩
        have D8 : Hid (W8.cell? ⟨h.p, 6, none⟩ = some (.map (some h.L)) ∧ W8.cell? ⟨h.p, 7, none⟩ = some (.map (some h.R)) ∧ W8.cell? ⟨w.heap.size, 0, none⟩ = some (.int .i64 x.1) ∧ W8.cell? ⟨w.heap.size, 1, none⟩ = some (.int .i64 x.2)) := ⟨F.k8 _ _ ap.pl ap.pr z6, F.k8 _ _ ap.pl ap.pr z7, F.k8 _ _ nl.out.1 nl.out.2 z0, F.k8 _ _ nl.out.1 nl.out.2 z1⟩
        have D9 : Hid (W9.cell? ⟨h.p, 6, none⟩ = some (.map (some h.L)) ∧ W9.cell? ⟨h.p, 7, none⟩ = some (.map (some h.R)) ∧ W9.cell? ⟨w.heap.size, 0, none⟩ = some (.int .i64 x.1) ∧ W9.cell? ⟨w.heap.size, 1, none⟩ = some (.int .i64 x.2)) := ⟨F.k9 _ _ ap.pl ap.pr z6, F.k9 _ _ ap.pl ap.pr z7, F.k9 _ _ nl.out.1 nl.out.2 z0, F.k9 _ _ nl.out.1 nl.out.2 z1⟩
        have D10 : Hid (W10.cell? ⟨h.p, 6, none⟩ = some (.map (some h.L)) ∧ W10.cell? ⟨h.p, 7, none⟩ = some (.map (some h.R)) ∧ W10.cell? ⟨w.heap.size, 0, none⟩ = some (.int .i64 x.1) ∧ W10.cell? ⟨w.heap.size, 1, none⟩ = some (.int .i64 x.2)) := ⟨F.k10 _ _ ap.pl ap.pr z6, F.k10 _ _ ap.pl ap.pr z7, F.k10 _ _ nl.out.1 nl.out.2 z0, F.k10 _ _ nl.out.1 nl.out.2 z1⟩
        have FI : Hid (PIn W10 h a b ord (x :: met) ∧ Keep h.S w W10) := ⟨F.fin, F.keep⟩
        clear F ap
        go_wp2_with fail
        go_region_held3 (fun w' => w'.cell? ⟨h.p, 6, none⟩ = some (.map (some h.L)) ∧ w'.cell? ⟨h.p, 7, none⟩ = some (.map (some h.R)) ∧ w'.cell? ⟨w.heap.size, 0, none⟩ = some (.int .i64 x.1) ∧ w'.cell? ⟨w.heap.size, 1, none⟩ = some (.int .i64 x.2))
          (first | exact D0.out | exact D7.out | exact D8.out | exact D9.out | exact D10.out)
          (fail)
        all_goals
          go_wp2_with fail
          go_ret
          exact ⟨rfl, FI.out.1, FI.out.2⟩
      · obtain rfl : tn = true := HTN.out
        have n4 := N4.out rfl
        have n4' : (y4 != x.2) = true := by unfold bne; rw [n4]; rfl
        have n5 := N5.out rfl
        have n5' : (y5 != x.1) = true := by unfold bne; rw [n5]; rfl
        obtain ⟨v1, v2, s1, s2, W7, W8, W9, W10, F⟩ := O5.out.fin2 AP.out ha hb hm
        rw [← HTW.out] at F
        have r1 := F.r1
        have r2 := F.r2
        have r3 := F.r3
        have r4 := F.r4
        have ap := AP.out
        have z6 : (V6.setCell ⟨h.p, 8, none⟩ (.bool true)).cell? ⟨h.p, 6, none⟩ = some (.map (some h.L)) := bcell (block_set O5.out.box 8 (.bool true)) 6
        have z7 : (V6.setCell ⟨h.p, 8, none⟩ (.bool true)).cell? ⟨h.p, 7, none⟩ = some (.map (some h.R)) := bcell (block_set O5.out.box 8 (.bool true)) 7
        have z0 : (V6.setCell ⟨h.p, 8, none⟩ (.bool true)).cell? ⟨w.heap.size, 0, none⟩ = some (.int .i64 x.1) := setCell_cell q0 (fun e => HSX.out (Or.inl e))
        have z1 : (V6.setCell ⟨h.p, 8, none⟩ (.bool true)).cell? ⟨w.heap.size, 1, none⟩ = some (.int .i64 x.2) := setCell_cell q1 (fun e => HSX.out (Or.inl e))
        have D0 : Hid ((V6.setCell ⟨h.p, 8, none⟩ (.bool true)).drew.cell? ⟨h.p, 6, none⟩ = some (.map (some h.L)) ∧ (V6.setCell ⟨h.p, 8, none⟩ (.bool true)).drew.cell? ⟨h.p, 7, none⟩ = some (.map (some h.R)) ∧ (V6.setCell ⟨h.p, 8, none⟩ (.bool true)).drew.cell? ⟨w.heap.size, 0, none⟩ = some (.int .i64 x.1) ∧ (V6.setCell ⟨h.p, 8, none⟩ (.bool true)).drew.cell? ⟨w.heap.size, 1, none⟩ = some (.int .i64 x.2)) := ⟨z6, z7, z0, z1⟩
        have nl : Hid (w.heap.size ≠ h.L ∧ w.heap.size ≠ h.R) := ⟨fun e => HSX.out (Or.inr (Or.inr (Or.inl e))), fun e => HSX.out (Or.inr (Or.inr (Or.inr e)))⟩
        have D7 : Hid (W7.cell? ⟨h.p, 6, none⟩ = some (.map (some h.L)) ∧ W7.cell? ⟨h.p, 7, none⟩ = some (.map (some h.R)) ∧ W7.cell? ⟨w.heap.size, 0, none⟩ = some (.int .i64 x.1) ∧ W7.cell? ⟨w.heap.size, 1, none⟩ = some (.int .i64 x.2)) := ⟨F.k7 _ _ ap.pl ap.pr z6, F.k7 _ _ ap.pl ap.pr z7, F.k7 _ _ nl.out.1 nl.out.2 z0, F.k7 _ _ nl.out.1 nl.out.2 z1⟩
        have D8 : Hid (W8.cell? ⟨h.p, 6, none⟩ = some (.map (some h.L)) ∧ W8.cell? ⟨h.p, 7, none⟩ = some (.map (some h.R)) ∧ W8.cell? ⟨w.heap.size, 0, none⟩ = some (.int .i64 x.1) ∧ W8.cell? ⟨w.heap.size, 1, none⟩ = some (.int .i64 x.2)) := ⟨F.k8 _ _ ap.pl ap.pr z6, F.k8 _ _ ap.pl ap.pr z7, F.k8 _ _ nl.out.1 nl.out.2 z0, F.k8 _ _ nl.out.1 nl.out.2 z1⟩
        have D9 : Hid (W9.cell? ⟨h.p, 6, none⟩ = some (.map (some h.L)) ∧ W9.cell? ⟨h.p, 7, none⟩ = some (.map (some h.R)) ∧ W9.cell? ⟨w.heap.size, 0, none⟩ = some (.int .i64 x.1) ∧ W9.cell? ⟨w.heap.size, 1, none⟩ = some (.int .i64 x.2)) := ⟨F.k9 _ _ ap.pl ap.pr z6, F.k9 _ _ ap.pl ap.pr z7, F.k9 _ _ nl.out.1 nl.out.2 z0, F.k9 _ _ nl.out.1 nl.out.2 z1⟩
        have D10 : Hid (W10.cell? ⟨h.p, 6, none⟩ = some (.map (some h.L)) ∧ W10.cell? ⟨h.p, 7, none⟩ = some (.map (some h.R)) ∧ W10.cell? ⟨w.heap.size, 0, none⟩ = some (.int .i64 x.1) ∧ W10.cell? ⟨w.heap.size, 1, none⟩ = some (.int .i64 x.2)) := ⟨F.k10 _ _ ap.pl ap.pr z6, F.k10 _ _ ap.pl ap.pr z7, F.k10 _ _ nl.out.1 nl.out.2 z0, F.k10 _ _ nl.out.1 nl.out.2 z1⟩
        have FI : Hid (PIn W10 h a b ord (x :: met) ∧ Keep h.S w W10) := ⟨F.fin, F.keep⟩
        clear F ap
        go_wp2_with fail
        go_region_held3 (fun w' => w'.cell? ⟨h.p, 6, none⟩ = some (.map (some h.L)) ∧ w'.cell? ⟨h.p, 7, none⟩ = some (.map (some h.R)) ∧ w'.cell? ⟨w.heap.size, 0, none⟩ = some (.int .i64 x.1) ∧ w'.cell? ⟨w.heap.size, 1, none⟩ = some (.int .i64 x.2))
          (first | exact D0.out | exact D7.out | exact D8.out | exact D9.out | exact D10.out)
          (fail)
        all_goals
          go_wp2_with fail
          go_ret
          exact ⟨rfl, FI.out.1, FI.out.2⟩
  · cases o4
    · cases o5
      · obtain rfl : tn = true := HTN.out
        obtain ⟨v1, v2, s1, s2, W7, W8, W9, W10, F⟩ := O5.out.fin2 AP.out ha hb hm
        rw [← HTW.out] at F
        have r1 := F.r1
        have r2 := F.r2
        have r3 := F.r3
        have r4 := F.r4
        have ap := AP.out
        have z6 : (V6.setCell ⟨h.p, 8, none⟩ (.bool true)).cell? ⟨h.p, 6, none⟩ = some (.map (some h.L)) := bcell (block_set O5.out.box 8 (.bool true)) 6
        have z7 : (V6.setCell ⟨h.p, 8, none⟩ (.bool true)).cell? ⟨h.p, 7, none⟩ = some (.map (some h.R)) := bcell (block_set O5.out.box 8 (.bool true)) 7
        have z0 : (V6.setCell ⟨h.p, 8, none⟩ (.bool true)).cell? ⟨w.heap.size, 0, none⟩ = some (.int .i64 x.1) := setCell_cell q0 (fun e => HSX.out (Or.inl e))
        have z1 : (V6.setCell ⟨h.p, 8, none⟩ (.bool true)).cell? ⟨w.heap.size, 1, none⟩ = some (.int .i64 x.2) := setCell_cell q1 (fun e => HSX.out (Or.inl e))
        have D0 : Hid ((V6.setCell ⟨h.p, 8, none⟩ (.bool true)).drew.cell? ⟨h.p, 6, none⟩ = some (.map (some h.L)) ∧ (V6.setCell ⟨h.p, 8, none⟩ (.bool true)).drew.cell? ⟨h.p, 7, none⟩ = some (.map (some h.R)) ∧ (V6.setCell ⟨h.p, 8, none⟩ (.bool true)).drew.cell? ⟨w.heap.size, 0, none⟩ = some (.int .i64 x.1) ∧ (V6.setCell ⟨h.p, 8, none⟩ (.bool true)).drew.cell? ⟨w.heap.size, 1, none⟩ = some (.int .i64 x.2)) := ⟨z6, z7, z0, z1⟩
        have nl : Hid (w.heap.size ≠ h.L ∧ w.heap.size ≠ h.R) := ⟨fun e => HSX.out (Or.inr (Or.inr (Or.inl e))), fun e => HSX.out (Or.inr (Or.inr (Or.inr e)))⟩
        have D7 : Hid (W7.cell? ⟨h.p, 6, none⟩ = some (.map (some h.L)) ∧ W7.cell? ⟨h.p, 7, none⟩ = some (.map (some h.R)) ∧ W7.cell? ⟨w.heap.size, 0, none⟩ = some (.int .i64 x.1) ∧ W7.cell? ⟨w.heap.size, 1, none⟩ = some (.int .i64 x.2)) := ⟨F.k7 _ _ ap.pl ap.pr z6, F.k7 _ _ ap.pl ap.pr z7, F.k7 _ _ nl.out.1 nl.out.2 z0, F.k7 _ _ nl.out.1 nl.out.2 z1⟩
        have D8 : Hid (W8.cell? ⟨h.p, 6, none⟩ = some (.map (some h.L)) ∧ W8.cell? ⟨h.p, 7, none⟩ = some (.map (some h.R)) ∧ W8.cell? ⟨w.heap.size, 0, none⟩ = some (.int .i64 x.1) ∧ W8.cell? ⟨w.heap.size, 1, none⟩ = some (.int .i64 x.2)) := ⟨F.k8 _ _ ap.pl ap.pr z6, F.k8 _ _ ap.pl ap.pr z7, F.k8 _ _ nl.out.1 nl.out.2 z0, F.k8 _ _ nl.out.1 nl.out.2 z1⟩
        have D9 : Hid (W9.cell? ⟨h.p, 6, none⟩ = some (.map (some h.L)) ∧ W9.cell? ⟨h.p, 7, none⟩ = some (.map (some h.R)) ∧ W9.cell? ⟨w.heap.size, 0, none⟩ = some (.int .i64 x.1) ∧ W9.cell? ⟨w.heap.size, 1, none⟩ = some (.int .i64 x.2)) := ⟨F.k9 _ _ ap.pl ap.pr z6, F.k9 _ _ ap.pl ap.pr z7, F.k9 _ _ nl.out.1 nl.out.2 z0, F.k9 _ _ nl.out.1 nl.out.2 z1⟩
        have D10 : Hid (W10.cell? ⟨h.p, 6, none⟩ = some (.map (some h.L)) ∧ W10.cell? ⟨h.p, 7, none⟩ = some (.map (some h.R)) ∧ W10.cell? ⟨w.heap.size, 0, none⟩ = some (.int .i64 x.1) ∧ W10.cell? ⟨w.heap.size, 1, none⟩ = some (.int .i64 x.2)) := ⟨F.k10 _ _ ap.pl ap.pr z6, F.k10 _ _ ap.pl ap.pr z7, F.k10 _ _ nl.out.1 nl.out.2 z0, F.k10 _ _ nl.out.1 nl.out.2 z1⟩
        have FI : Hid (PIn W10 h a b ord (x :: met) ∧ Keep h.S w W10) := ⟨F.fin, F.keep⟩
        clear F ap
        go_wp2_with fail
        go_region_held3 (fun w' => w'.cell? ⟨h.p, 6, none⟩ = some (.map (some h.L)) ∧ w'.cell? ⟨h.p, 7, none⟩ = some (.map (some h.R)) ∧ w'.cell? ⟨w.heap.size, 0, none⟩ = some (.int .i64 x.1) ∧ w'.cell? ⟨w.heap.size, 1, none⟩ = some (.int .i64 x.2))
          (first | exact D0.out | exact D7.out | exact D8.out | exact D9.out | exact D10.out)
          (fail)
        all_goals
          go_wp2_with fail
          go_ret
          exact ⟨rfl, FI.out.1, FI.out.2⟩
      · obtain rfl : tn = true := HTN.out
        have n5 := N5.out rfl
        have n5' : (y5 != x.1) = true := by unfold bne; rw [n5]; rfl
        obtain ⟨v1, v2, s1, s2, W7, W8, W9, W10, F⟩ := O5.out.fin2 AP.out ha hb hm
        rw [← HTW.out] at F
        have r1 := F.r1
        have r2 := F.r2
        have r3 := F.r3
        have r4 := F.r4
        have ap := AP.out
        have z6 : (V6.setCell ⟨h.p, 8, none⟩ (.bool true)).cell? ⟨h.p, 6, none⟩ = some (.map (some h.L)) := bcell (block_set O5.out.box 8 (.bool true)) 6
        have z7 : (V6.setCell ⟨h.p, 8, none⟩ (.bool true)).cell? ⟨h.p, 7, none⟩ = some (.map (some h.R)) := bcell (block_set O5.out.box 8 (.bool true)) 7
        have z0 : (V6.setCell ⟨h.p, 8, none⟩ (.bool true)).cell? ⟨w.heap.size, 0, none⟩ = some (.int .i64 x.1) := setCell_cell q0 (fun e => HSX.out (Or.inl e))
        have z1 : (V6.setCell ⟨h.p, 8, none⟩ (.bool true)).cell? ⟨w.heap.size, 1, none⟩ = some (.int .i64 x.2) := setCell_cell q1 (fun e => HSX.out (Or.inl e))
        have D0 : Hid ((V6.setCell ⟨h.p, 8, none⟩ (.bool true)).drew.cell? ⟨h.p, 6, none⟩ = some (.map (some h.L)) ∧ (V6.setCell ⟨h.p, 8, none⟩ (.bool true)).drew.cell? ⟨h.p, 7, none⟩ = some (.map (some h.R)) ∧ (V6.setCell ⟨h.p, 8, none⟩ (.bool true)).drew.cell? ⟨w.heap.size, 0, none⟩ = some (.int .i64 x.1) ∧ (V6.setCell ⟨h.p, 8, none⟩ (.bool true)).drew.cell? ⟨w.heap.size, 1, none⟩ = some (.int .i64 x.2)) := ⟨z6, z7, z0, z1⟩
        have nl : Hid (w.heap.size ≠ h.L ∧ w.heap.size ≠ h.R) := ⟨fun e => HSX.out (Or.inr (Or.inr (Or.inl e))), fun e => HSX.out (Or.inr (Or.inr (Or.inr e)))⟩
        have D7 : Hid (W7.cell? ⟨h.p, 6, none⟩ = some (.map (some h.L)) ∧ W7.cell? ⟨h.p, 7, none⟩ = some (.map (some h.R)) ∧ W7.cell? ⟨w.heap.size, 0, none⟩ = some (.int .i64 x.1) ∧ W7.cell? ⟨w.heap.size, 1, none⟩ = some (.int .i64 x.2)) := ⟨F.k7 _ _ ap.pl ap.pr z6, F.k7 _ _ ap.pl ap.pr z7, F.k7 _ _ nl.out.1 nl.out.2 z0, F.k7 _ _ nl.out.1 nl.out.2 z1⟩
        have D8 : Hid (W8.cell? ⟨h.p, 6, none⟩ = some (.map (some h.L)) ∧ W8.cell? ⟨h.p, 7, none⟩ = some (.map (some h.R)) ∧ W8.cell? ⟨w.heap.size, 0, none⟩ = some (.int .i64 x.1) ∧ W8.cell? ⟨w.heap.size, 1, none⟩ = some (.int .i64 x.2)) := ⟨F.k8 _ _ ap.pl ap.pr z6, F.k8 _ _ ap.pl ap.pr z7, F.k8 _ _ nl.out.1 nl.out.2 z0, F.k8 _ _ nl.out.1 nl.out.2 z1⟩
        have D9 : Hid (W9.cell? ⟨h.p, 6, none⟩ = some (.map (some h.L)) ∧ W9.cell? ⟨h.p, 7, none⟩ = some (.map (some h.R)) ∧ W9.cell? ⟨w.heap.size, 0, none⟩ = some (.int .i64 x.1) ∧ W9.cell? ⟨w.heap.size, 1, none⟩ = some (.int .i64 x.2)) := ⟨F.k9 _ _ ap.pl ap.pr z6, F.k9 _ _ ap.pl ap.pr z7, F.k9 _ _ nl.out.1 nl.out.2 z0, F.k9 _ _ nl.out.1 nl.out.2 z1⟩
        have D10 : Hid (W10.cell? ⟨h.p, 6, none⟩ = some (.map (some h.L)) ∧ W10.cell? ⟨h.p, 7, none⟩ = some (.map (some h.R)) ∧ W10.cell? ⟨w.heap.size, 0, none⟩ = some (.int .i64 x.1) ∧ W10.cell? ⟨w.heap.size, 1, none⟩ = some (.int .i64 x.2)) := ⟨F.k10 _ _ ap.pl ap.pr z6, F.k10 _ _ ap.pl ap.pr z7, F.k10 _ _ nl.out.1 nl.out.2 z0, F.k10 _ _ nl.out.1 nl.out.2 z1⟩
        have FI : Hid (PIn W10 h a b ord (x :: met) ∧ Keep h.S w W10) := ⟨F.fin, F.keep⟩
        clear F ap
        go_wp2_with fail
        go_region_held3 (fun w' => w'.cell? ⟨h.p, 6, none⟩ = some (.map (some h.L)) ∧ w'.cell? ⟨h.p, 7, none⟩ = some (.map (some h.R)) ∧ w'.cell? ⟨w.heap.size, 0, none⟩ = some (.int .i64 x.1) ∧ w'.cell? ⟨w.heap.size, 1, none⟩ = some (.int .i64 x.2))
          (first | exact D0.out | exact D7.out | exact D8.out | exact D9.out | exact D10.out)
          (fail)
        all_goals
          go_wp2_with fail
          go_ret
          exact ⟨rfl, FI.out.1, FI.out.2⟩
    · cases o5
      · obtain rfl : tn = true := HTN.out
        have n4 := N4.out rfl
        have n4' : (y4 != x.2) = true := by unfold bne; rw [n4]; rfl
        obtain ⟨v1, v2, s1, s2, W7, W8, W9, W10, F⟩ := O5.out.fin2 AP.out ha hb hm
        rw [← HTW.out] at F
        have r1 := F.r1
        have r2 := F.r2
        have r3 := F.r3
        have r4 := F.r4
        have ap := AP.out
        have z6 : (V6.setCell ⟨h.p, 8, none⟩ (.bool true)).cell? ⟨h.p, 6, none⟩ = some (.map (some h.L)) := bcell (block_set O5.out.box 8 (.bool true)) 6
        have z7 : (V6.setCell ⟨h.p, 8, none⟩ (.bool true)).cell? ⟨h.p, 7, none⟩ = some (.map (some h.R)) := bcell (block_set O5.out.box 8 (.bool true)) 7
        have z0 : (V6.setCell ⟨h.p, 8, none⟩ (.bool true)).cell? ⟨w.heap.size, 0, none⟩ = some (.int .i64 x.1) := setCell_cell q0 (fun e => HSX.out (Or.inl e))
        have z1 : (V6.setCell ⟨h.p, 8, none⟩ (.bool true)).cell? ⟨w.heap.size, 1, none⟩ = some (.int .i64 x.2) := setCell_cell q1 (fun e => HSX.out (Or.inl e))
        have D0 : Hid ((V6.setCell ⟨h.p, 8, none⟩ (.bool true)).drew.cell? ⟨h.p, 6, none⟩ = some (.map (some h.L)) ∧ (V6.setCell ⟨h.p, 8, none⟩ (.bool true)).drew.cell? ⟨h.p, 7, none⟩ = some (.map (some h.R)) ∧ (V6.setCell ⟨h.p, 8, none⟩ (.bool true)).drew.cell? ⟨w.heap.size, 0, none⟩ = some (.int .i64 x.1) ∧ (V6.setCell ⟨h.p, 8, none⟩ (.bool true)).drew.cell? ⟨w.heap.size, 1, none⟩ = some (.int .i64 x.2)) := ⟨z6, z7, z0, z1⟩
        have nl : Hid (w.heap.size ≠ h.L ∧ w.heap.size ≠ h.R) := ⟨fun e => HSX.out (Or.inr (Or.inr (Or.inl e))), fun e => HSX.out (Or.inr (Or.inr (Or.inr e)))⟩
        have D7 : Hid (W7.cell? ⟨h.p, 6, none⟩ = some (.map (some h.L)) ∧ W7.cell? ⟨h.p, 7, none⟩ = some (.map (some h.R)) ∧ W7.cell? ⟨w.heap.size, 0, none⟩ = some (.int .i64 x.1) ∧ W7.cell? ⟨w.heap.size, 1, none⟩ = some (.int .i64 x.2)) := ⟨F.k7 _ _ ap.pl ap.pr z6, F.k7 _ _ ap.pl ap.pr z7, F.k7 _ _ nl.out.1 nl.out.2 z0, F.k7 _ _ nl.out.1 nl.out.2 z1⟩
        have D8 : Hid (W8.cell? ⟨h.p, 6, none⟩ = some (.map (some h.L)) ∧ W8.cell? ⟨h.p, 7, none⟩ = some (.map (some h.R)) ∧ W8.cell? ⟨w.heap.size, 0, none⟩ = some (.int .i64 x.1) ∧ W8.cell? ⟨w.heap.size, 1, none⟩ = some (.int .i64 x.2)) := ⟨F.k8 _ _ ap.pl ap.pr z6, F.k8 _ _ ap.pl ap.pr z7, F.k8 _ _ nl.out.1 nl.out.2 z0, F.k8 _ _ nl.out.1 nl.out.2 z1⟩
        have D9 : Hid (W9.cell? ⟨h.p, 6, none⟩ = some (.map (some h.L)) ∧ W9.cell? ⟨h.p, 7, none⟩ = some (.map (some h.R)) ∧ W9.cell? ⟨w.heap.size, 0, none⟩ = some (.int .i64 x.1) ∧ W9.cell? ⟨w.heap.size, 1, none⟩ = some (.int .i64 x.2)) := ⟨F.k9 _ _ ap.pl ap.pr z6, F.k9 _ _ ap.pl ap.pr z7, F.k9 _ _ nl.out.1 nl.out.2 z0, F.k9 _ _ nl.out.1 nl.out.2 z1⟩
        have D10 : Hid (W10.cell? ⟨h.p, 6, none⟩ = some (.map (some h.L)) ∧ W10.cell? ⟨h.p, 7, none⟩ = some (.map (some h.R)) ∧ W10.cell? ⟨w.heap.size, 0, none⟩ = some (.int .i64 x.1) ∧ W10.cell? ⟨w.heap.size, 1, none⟩ = some (.int .i64 x.2)) := ⟨F.k10 _ _ ap.pl ap.pr z6, F.k10 _ _ ap.pl ap.pr z7, F.k10 _ _ nl.out.1 nl.out.2 z0, F.k10 _ _ nl.out.1 nl.out.2 z1⟩
        have FI : Hid (PIn W10 h a b ord (x :: met) ∧ Keep h.S w W10) := ⟨F.fin, F.keep⟩
        clear F ap
        go_wp2_with fail
        go_region_held3 (fun w' => w'.cell? ⟨h.p, 6, none⟩ = some (.map (some h.L)) ∧ w'.cell? ⟨h.p, 7, none⟩ = some (.map (some h.R)) ∧ w'.cell? ⟨w.heap.size, 0, none⟩ = some (.int .i64 x.1) ∧ w'.cell? ⟨w.heap.size, 1, none⟩ = some (.int .i64 x.2))
          (first | exact D0.out | exact D7.out | exact D8.out | exact D9.out | exact D10.out)
          (fail)
        all_goals
          go_wp2_with fail
          go_ret
          exact ⟨rfl, FI.out.1, FI.out.2⟩
      · obtain rfl : tn = true := HTN.out
        have n4 := N4.out rfl
        have n4' : (y4 != x.2) = true := by unfold bne; rw [n4]; rfl
        have n5 := N5.out rfl
        have n5' : (y5 != x.1) = true := by unfold bne; rw [n5]; rfl
        obtain ⟨v1, v2, s1, s2, W7, W8, W9, W10, F⟩ := O5.out.fin2 AP.out ha hb hm
        rw [← HTW.out] at F
        have r1 := F.r1
        have r2 := F.r2
        have r3 := F.r3
        have r4 := F.r4
        have ap := AP.out
        have z6 : (V6.setCell ⟨h.p, 8, none⟩ (.bool true)).cell? ⟨h.p, 6, none⟩ = some (.map (some h.L)) := bcell (block_set O5.out.box 8 (.bool true)) 6
        have z7 : (V6.setCell ⟨h.p, 8, none⟩ (.bool true)).cell? ⟨h.p, 7, none⟩ = some (.map (some h.R)) := bcell (block_set O5.out.box 8 (.bool true)) 7
        have z0 : (V6.setCell ⟨h.p, 8, none⟩ (.bool true)).cell? ⟨w.heap.size, 0, none⟩ = some (.int .i64 x.1) := setCell_cell q0 (fun e => HSX.out (Or.inl e))
        have z1 : (V6.setCell ⟨h.p, 8, none⟩ (.bool true)).cell? ⟨w.heap.size, 1, none⟩ = some (.int .i64 x.2) := setCell_cell q1 (fun e => HSX.out (Or.inl e))
        have D0 : Hid ((V6.setCell ⟨h.p, 8, none⟩ (.bool true)).drew.cell? ⟨h.p, 6, none⟩ = some (.map (some h.L)) ∧ (V6.setCell ⟨h.p, 8, none⟩ (.bool true)).drew.cell? ⟨h.p, 7, none⟩ = some (.map (some h.R)) ∧ (V6.setCell ⟨h.p, 8, none⟩ (.bool true)).drew.cell? ⟨w.heap.size, 0, none⟩ = some (.int .i64 x.1) ∧ (V6.setCell ⟨h.p, 8, none⟩ (.bool true)).drew.cell? ⟨w.heap.size, 1, none⟩ = some (.int .i64 x.2)) := ⟨z6, z7, z0, z1⟩
        have nl : Hid (w.heap.size ≠ h.L ∧ w.heap.size ≠ h.R) := ⟨fun e => HSX.out (Or.inr (Or.inr (Or.inl e))), fun e => HSX.out (Or.inr (Or.inr (Or.inr e)))⟩
        have D7 : Hid (W7.cell? ⟨h.p, 6, none⟩ = some (.map (some h.L)) ∧ W7.cell? ⟨h.p, 7, none⟩ = some (.map (some h.R)) ∧ W7.cell? ⟨w.heap.size, 0, none⟩ = some (.int .i64 x.1) ∧ W7.cell? ⟨w.heap.size, 1, none⟩ = some (.int .i64 x.2)) := ⟨F.k7 _ _ ap.pl ap.pr z6, F.k7 _ _ ap.pl ap.pr z7, F.k7 _ _ nl.out.1 nl.out.2 z0, F.k7 _ _ nl.out.1 nl.out.2 z1⟩
        have D8 : Hid (W8.cell? ⟨h.p, 6, none⟩ = some (.map (some h.L)) ∧ W8.cell? ⟨h.p, 7, none⟩ = some (.map (some h.R)) ∧ W8.cell? ⟨w.heap.size, 0, none⟩ = some (.int .i64 x.1) ∧ W8.cell? ⟨w.heap.size, 1, none⟩ = some (.int .i64 x.2)) := ⟨F.k8 _ _ ap.pl ap.pr z6, F.k8 _ _ ap.pl ap.pr z7, F.k8 _ _ nl.out.1 nl.out.2 z0, F.k8 _ _ nl.out.1 nl.out.2 z1⟩
        have D9 : Hid (W9.cell? ⟨h.p, 6, none⟩ = some (.map (some h.L)) ∧ W9.cell? ⟨h.p, 7, none⟩ = some (.map (some h.R)) ∧ W9.cell? ⟨w.heap.size, 0, none⟩ = some (.int .i64 x.1) ∧ W9.cell? ⟨w.heap.size, 1, none⟩ = some (.int .i64 x.2)) := ⟨F.k9 _ _ ap.pl ap.pr z6, F.k9 _ _ ap.pl ap.pr z7, F.k9 _ _ nl.out.1 nl.out.2 z0, F.k9 _ _ nl.out.1 nl.out.2 z1⟩
        have D10 : Hid (W10.cell? ⟨h.p, 6, none⟩ = some (.map (some h.L)) ∧ W10.cell? ⟨h.p, 7, none⟩ = some (.map (some h.R)) ∧ W10.cell? ⟨w.heap.size, 0, none⟩ = some (.int .i64 x.1) ∧ W10.cell? ⟨w.heap.size, 1, none⟩ = some (.int .i64 x.2)) := ⟨F.k10 _ _ ap.pl ap.pr z6, F.k10 _ _ ap.pl ap.pr z7, F.k10 _ _ nl.out.1 nl.out.2 z0, F.k10 _ _ nl.out.1 nl.out.2 z1⟩
        have FI : Hid (PIn W10 h a b ord (x :: met) ∧ Keep h.S w W10) := ⟨F.fin, F.keep⟩
        clear F ap
        go_wp2_with fail
        go_region_held3 (fun w' => w'.cell? ⟨h.p, 6, none⟩ = some (.map (some h.L)) ∧ w'.cell? ⟨h.p, 7, none⟩ = some (.map (some h.R)) ∧ w'.cell? ⟨w.heap.size, 0, none⟩ = some (.int .i64 x.1) ∧ w'.cell? ⟨w.heap.size, 1, none⟩ = some (.int .i64 x.2))
          (first | exact D0.out | exact D7.out | exact D8.out | exact D9.out | exact D10.out)
          (fail)
        all_goals
          go_wp2_with fail
          go_ret
          exact ⟨rfl, FI.out.1, FI.out.2⟩
end Go.Proofs.YtpgncjfmaeiaaaaDoor.Is
