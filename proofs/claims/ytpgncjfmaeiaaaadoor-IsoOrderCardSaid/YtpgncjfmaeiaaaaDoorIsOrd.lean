/- The places of a graph in order: the walk of graph.walker.to. Conditions: right graphs, texts and rows no longer than 10^6. -/
import Derived.Test.YtpgncjfmaeiaaaaDoorIsWay
set_option linter.unusedVariables false
namespace Go.Proofs.YtpgncjfmaeiaaaaDoor.Is
open Go.RowKit
def flg (n : Nat) (met : PrL) : List Value := (List.range n).map fun (i : Nat) => Value.bool (decide (((i : Int), (i : Int)) ∈ met))
theorem flg_len (n : Nat) (met : PrL) : (flg n met).length = n := by simp [flg]
def wkCells (g : Gv) (U : Nat) (A : Option Addr) (len c : Nat) (m : Int) : Array Value := #[.slice g.A g.ns.length g.c, .int .i64 g.root, .slice (some ⟨U, 0, none⟩) g.ns.length g.ns.length, .slice A len c, .int .i64 m]
/-- a walker in memory -/
structure WIn (w : World) (B p U : Nat) (g : Gv) (met : PrL) : Prop where
  box : ∃ A c m, w.heap[p]? = some (.cells (wkCells g U A met.length c m) 63 (0, 0)) ∧ w.ownsRow B 3 1 (.slice A met.length c) met.length (intCells (lefts met))
  flags : w.heap[U]? = some (.cells (flg g.ns.length met).toArray 4 (0, 0))
  apart : p ≠ U
  pB : p < B
  uB : U < B
  sz : B ≤ w.heap.size
theorem WIn.cellF {w : World} {B p U : Nat} {g : Gv} {met : PrL} (h : WIn w B p U g met) {k : Nat} (hk : k < g.ns.length) : w.cell? ⟨U, k, none⟩ = some (.bool (decide (((k : Int), (k : Int)) ∈ met))) := by
  rw [bcell h.flags]
  simp [flg, hk]
theorem WIn.below {w w' : World} {B p U : Nat} {g : Gv} {met : PrL} (h : WIn w B p U g met) (hb : Below w.heap.size w w') : WIn w' B p U g met := by
  obtain ⟨A, c, m, h1, h2⟩ := h.box
  exact ⟨⟨A, c, m, (hb.block _ (blt h1)).trans h1, own_below h2 hb⟩, (hb.block _ (blt h.flags)).trans h.flags, h.apart, h.pB, h.uB, Nat.le_trans h.sz hb.size⟩
theorem flg_put {n : Nat} {met : PrL} {k : Nat} (hk : k < n) : (flg n met).toArray.setIfInBounds k (.bool true) = (flg n (((k : Int), (k : Int)) :: met)).toArray := by
  apply Array.ext
  · simp [flg]
  · intro i h1 h2
    have hi : i < n := by simpa [flg] using h2
    rw [Array.getElem_setIfInBounds (by simpa [flg] using hi)]
    by_cases hik : k = i
    · subst hik
      simp [flg]
    · have : ¬ ((i : Int) = (k : Int)) := by omega
      simp [flg, hik, this]
theorem lefts_cons (x : Int × Int) (met : PrL) : lefts (x :: met) = lefts met ++ [x.1] := by simp [lefts]
theorem lefts_len (met : PrL) : (lefts met).length = met.length := by simp [lefts]
def WayPost (w0 : World) (B p U : Nat) (g : Gv) (met : PrL) (e : Ending) (w' : World) : Prop := e = .returned (.tuple #[]) ∧ WIn w' B p U g met ∧ Below w0.heap.size w0 w'
def WaySpec (w0 : World) (B p U : Nat) (g : Gv) (N : Nat) : Prop :=
  ∀ W met k (deep : Int), Below w0.heap.size w0 W → WIn W B p U g met → OkM g.ns.length g.ns.length met → InU g.ns.length g.ns.length (k, k) → mu g.ns.length g.ns.length met < N →
    Calls Tryd.prog 40 #[.pointer (some ⟨p, 0, none⟩), .int .i64 k, .int .i64 deep] W (WayPost w0 B p U g (toF (chD g) N met (k, k)).2)
theorem toD_met {ch : Int × Int → Bool × PrL} {N : Nat} {met : PrL} {x : Int × Int} (h : x ∈ met) : (toF ch (N + 1) met x).2 = met := by unfold toF; rw [if_pos h]
theorem toD_new {ch : Int × Int → Bool × PrL} {N : Nat} {met : PrL} {x : Int × Int} (h : x ∉ met) : (toF ch (N + 1) met x).2 = (goF (toF ch N) (ch x).2 (x :: met)).2 := by unfold toF; rw [if_neg h]
set_option maxRecDepth 100000 in
set_option maxHeartbeats 6400000 in
theorem way_step (w0 : World) (B p U : Nat) (g : Gv) (N : Nat) (G : GrIn w0 g) (R : rightN g = true) (hS : ∀ m ∈ g.ns, m.kids.length ≤ 1000000) (hp0 : w0.heap.size ≤ p) (hU0 : w0.heap.size ≤ U) (IH : WaySpec w0 B p U g N) : WaySpec w0 B p U g (N + 1) := by
  intro W met k deep hW P hok hk hmu
  have hBW := P.sz
  have hk0 := hk
  obtain ⟨k1, k2, _, _⟩ := hk
  simp only at k1 k2
  obtain ⟨n, rfl⟩ : ∃ n : Nat, k = (n : Int) := ⟨k.toNat, by omega⟩
  have hn : n < g.ns.length := by omega
  have cF := P.cellF hn
  obtain ⟨A, c, m, hbx, hrow⟩ := P.box
  have b2 := bcell hbx 2
  unfold wkCells at b2
  have PH := Lib.hid P
  have HW := Lib.hid hW
  have HR := Lib.hid hrow
  have HX := Lib.hid hbx
  obtain ⟨L, hL⟩ : ∃ L, L = g.ns.length := ⟨_, rfl⟩
  have HL := Lib.hid hL
  rw [← hL] at b2
  have hnI : (n : Int) < (L : Int) := by omega
  by_cases hm : ((n : Int), (n : Int)) ∈ met
  · rw [decide_eq_true hm] at cF
    rw [toD_met hm]
    clear P hW hrow hbx hL k2 hok hk0 hmu hm
    go_enter Tryd.func40, Tryd.ntmps40
    go_wp2_with fail
    go_end0
    exact ⟨rfl, PH.out, HW.out⟩
  · rw [decide_eq_false hm] at cF
    rw [toD_new hm]
    have fU : W.frozen? ⟨U, n, none⟩ = false := bfree P.flags n
    have g1 := setCell_grown W U n (.bool true)
    have bx1 : Hid ((W.setCell ⟨U, n, none⟩ (.bool true)).heap[p]? = some (.cells (wkCells g U A met.length c m) 63 (0, 0))) := (g1.block p (blt hbx) (by intro e; injection e with e; exact P.apart e)).trans hbx
    have fl1 : Hid ((W.setCell ⟨U, n, none⟩ (.bool true)).heap[U]? = some (.cells (flg g.ns.length (((n : Int), (n : Int)) :: met)).toArray 4 (0, 0))) := by show _ = _; rw [block_set P.flags n, flg_put hn]
    have rw1 : Hid ((W.setCell ⟨U, n, none⟩ (.bool true)).ownsRow B 3 1 (.slice A met.length c) met.length (intCells (lefts met))) := ownsRow_setCell_below hrow (a := ⟨U, n, none⟩) P.uB _
    have B1 : Hid (Below w0.heap.size w0 (W.setCell ⟨U, n, none⟩ (.bool true))) := setCell_below hW hU0 hW.size
    have c3 : (W.setCell ⟨U, n, none⟩ (.bool true)).cell? ⟨p, 3, none⟩ = some (.slice A met.length c) := bcell bx1.out 3
    have hwB : Hid (w0.heap.size ≤ B) := Nat.le_trans hp0 (Nat.le_of_lt P.pB)
    have hz : (W.setCell ⟨U, n, none⟩ (.bool true)).heap.size = W.heap.size := by simp [World.setCell]
    have pB := Lib.hid P.pB
    have uB := Lib.hid P.uB
    have AP := Lib.hid P.apart
    have hml : met.length ≤ 20000000 := by
      have h1 := hok.len
      have h2 := (right_len R).2.1
      have h4 : g.ns.length * g.ns.length ≤ 4096 * 4096 := Nat.mul_le_mul h2 h2
      omega
    have hm2 := Lib.hid hm
    clear P hW hrow hbx hm PH HX HR g1
    obtain ⟨i0, hi, hz0, hz1, hz2⟩ := info_parts infoInt
    go_enter Tryd.func40, Tryd.ntmps40
    go_wp2_with (at_builtin; refine wpList_append_own _ rfl _ _ 36 rfl B 3 i0 (.int .i64 0) 1 8 Tryd.underlying36 hi hz0 hz1 hz2 rfl (by decide) (.slice A met.length c) met.length (intCells (lefts met)) rfl (own_below rw1.out (ext_world _ _)) ⟨_, 0, none⟩ 1 1 [.int .i64 (n : Int)] rfl rfl ?c1 ?c2 ?c3 ?c4 ?c5 ?_)
    case c2 => rfl
    case c3 => unfold maxLen; omega
    case c4 => omega
    case c5 => omega
    intro v2 w2 ho2 hg2 _
    have HO2 : Hid (w2.ownsRow B 3 1 v2 (met.length + 1) (intCells (lefts (((n : Int), (n : Int)) :: met)))) := by
      show World.ownsRow _ _ _ _ _ _ _
      rw [lefts_cons]
      simpa [intCells] using ho2
    obtain ⟨A2, cc2, rfl⟩ := own_len HO2.out
    have r1 := rw1.out.lt
    have hzp : p < (W.setCell ⟨U, n, none⟩ (.bool true)).heap.size := blt bx1.out
    have hzu : U < (W.setCell ⟨U, n, none⟩ (.bool true)).heap.size := blt fl1.out
    have bx2 : Hid (w2.heap[p]? = some (.cells (wkCells g U A met.length c m) 63 (0, 0))) := (hg2.block p (by simp; omega) (by intro e; have := (r1 p e.symm).1; have := pB.out; omega)).trans (((ext_world _ _).block p hzp).trans bx1.out)
    have fl2 : Hid (w2.heap[U]? = some (.cells (flg g.ns.length (((n : Int), (n : Int)) :: met)).toArray 4 (0, 0))) := (hg2.block U (by simp; omega) (by intro e; have := (r1 U e.symm).1; have := uB.out; omega)).trans (((ext_world _ _).block U hzu).trans fl1.out)
    have B2 : Hid (Below w0.heap.size w0 w2) := (B1.out.alloc B1.out.size _).grown hg2 (by have := B1.out.size; simp; omega) (fun j hj => by have := (r1 j hj).1; have := hwB.out; omega)
    have hBw2 : Hid (B ≤ w2.heap.size) := by
      have h1 : (W.setCell ⟨U, n, none⟩ (.bool true)).heap.size ≤ w2.heap.size := Nat.le_trans (ext_world _ _).size hg2.size
      rw [hz] at h1
      exact Nat.le_trans hBW h1
    have f3 : w2.frozen? ⟨p, 3, none⟩ = false := bfree bx2.out 3
    have d3 : w2.cell? ⟨p, 3, none⟩ = some (.slice A met.length c) := bcell bx2.out 3
    have bx3 : Hid ((w2.setCell ⟨p, 3, none⟩ (.slice A2 (met.length + 1) cc2)).heap[p]? = some (.cells (wkCells g U A2 (met.length + 1) cc2 m) 63 (0, 0))) := block_set bx2.out 3 _
    have f4 : (w2.setCell ⟨p, 3, none⟩ (.slice A2 (met.length + 1) cc2)).frozen? ⟨p, 4, none⟩ = false := bfree bx3.out 4
    have d4 : (w2.setCell ⟨p, 3, none⟩ (.slice A2 (met.length + 1) cc2)).cell? ⟨p, 4, none⟩ = some (.int .i64 m) := bcell bx3.out 4
    have fl3 : Hid ((w2.setCell ⟨p, 3, none⟩ (.slice A2 (met.length + 1) cc2)).heap[U]? = some (.cells (flg g.ns.length (((n : Int), (n : Int)) :: met)).toArray 4 (0, 0))) := ((setCell_grown w2 p 3 _).block U (blt fl2.out) (by intro e; injection e with e; exact AP.out e.symm)).trans fl2.out
    have rw3 : Hid ((w2.setCell ⟨p, 3, none⟩ (.slice A2 (met.length + 1) cc2)).ownsRow B 3 1 (.slice A2 (met.length + 1) cc2) (met.length + 1) (intCells (lefts (((n : Int), (n : Int)) :: met)))) := ownsRow_setCell_below HO2.out (a := ⟨p, 3, none⟩) pB.out _
    have B3 : Hid (Below w0.heap.size w0 (w2.setCell ⟨p, 3, none⟩ (.slice A2 (met.length + 1) cc2))) := setCell_below B2.out hp0 B2.out.size
    have hBw3 : Hid (B ≤ (w2.setCell ⟨p, 3, none⟩ (.slice A2 (met.length + 1) cc2)).heap.size) := Nat.le_trans hBw2.out (setCell_grown w2 p 3 _).size
    have bx4 : Hid (((w2.setCell ⟨p, 3, none⟩ (.slice A2 (met.length + 1) cc2)).setCell ⟨p, 4, none⟩ (.int .i64 (max m deep))).heap[p]? = some (.cells (wkCells g U A2 (met.length + 1) cc2 (max m deep)) 63 (0, 0))) := block_set bx3.out 4 _
    have fl4 : Hid (((w2.setCell ⟨p, 3, none⟩ (.slice A2 (met.length + 1) cc2)).setCell ⟨p, 4, none⟩ (.int .i64 (max m deep))).heap[U]? = some (.cells (flg g.ns.length (((n : Int), (n : Int)) :: met)).toArray 4 (0, 0))) := ((setCell_grown _ p 4 _).block U (blt fl3.out) (by intro e; injection e with e; exact AP.out e.symm)).trans fl3.out
    have rw4 : Hid (((w2.setCell ⟨p, 3, none⟩ (.slice A2 (met.length + 1) cc2)).setCell ⟨p, 4, none⟩ (.int .i64 (max m deep))).ownsRow B 3 1 (.slice A2 (met.length + 1) cc2) (met.length + 1) (intCells (lefts (((n : Int), (n : Int)) :: met)))) := ownsRow_setCell_below rw3.out (a := ⟨p, 4, none⟩) pB.out _
    have B4 : Hid (Below w0.heap.size w0 ((w2.setCell ⟨p, 3, none⟩ (.slice A2 (met.length + 1) cc2)).setCell ⟨p, 4, none⟩ (.int .i64 (max m deep)))) := setCell_below B3.out hp0 B3.out.size
    have hBw4 : Hid (B ≤ ((w2.setCell ⟨p, 3, none⟩ (.slice A2 (met.length + 1) cc2)).setCell ⟨p, 4, none⟩ (.int .i64 (max m deep))).heap.size) := Nat.le_trans hBw3.out (setCell_grown _ p 4 _).size
    have e0 : ((w2.setCell ⟨p, 3, none⟩ (.slice A2 (met.length + 1) cc2)).setCell ⟨p, 4, none⟩ (.int .i64 (max m deep))).cell? ⟨p, 0, none⟩ = some (.slice g.A g.ns.length g.c) := bcell bx4.out 0
    have P4 : Hid (WIn ((w2.setCell ⟨p, 3, none⟩ (.slice A2 (met.length + 1) cc2)).setCell ⟨p, 4, none⟩ (.int .i64 (max m deep))) B p U g (((n : Int), (n : Int)) :: met)) := ⟨⟨A2, cc2, _, bx4.out, rw4.out⟩, fl4.out, AP.out, pB.out, uB.out, hBw4.out⟩
    obtain ⟨bg, og, hAg, hbg, _, _, hg2'⟩ := (G.below B4.out).get n hn
    have hKN := Lib.hid (G.kids _ (getD_memD hn))
    have hKS := Lib.hid (hS _ (getD_memD hn))
    have hRK := Lib.hid (right_kids R (getD_memD hn))
    have hch : Hid ((chD g ((n : Int), (n : Int))).2 = (g.ns.getD n nd0).kids.map fun k => (k, k)) := rfl
    generalize g.ns.getD n nd0 = nd at hg2' hKN hKS hRK hch
    obtain ⟨nk, nt, kids, ka, kc⟩ := nd
    simp only at hg2'
    obtain ⟨KL, hKL⟩ : ∃ KL, KL = kids.length := ⟨_, rfl⟩
    have HKL := Lib.hid hKL
    rw [← hKL] at hg2'
    have OK1 : Hid (OkM g.ns.length g.ns.length (((n : Int), (n : Int)) :: met) ∧ mu g.ns.length g.ns.length (((n : Int), (n : Int)) :: met) < N) := ⟨hok.cons hk0 hm2.out, by have := mu_lt hk0 hm2.out; omega⟩
    rw [hch.out]
    obtain ⟨FIN, hFIN⟩ : ∃ FIN, FIN = (goF (toF (chD g) N) (kids.map fun k => (k, k)) (((n : Int), (n : Int)) :: met)).2 := ⟨_, rfl⟩
    simp only
    rw [← hFIN]
    have HFIN := Lib.hid hFIN
    have HPOST : Hid ((goF (toF (chD g) N) (chD g ((n : Int), (n : Int))).2 (((n : Int), (n : Int)) :: met)).2 = FIN) := by
      show _ = _
      rw [hch.out, hFIN]
    have HI := Lib.hid IH
    have HGR := Lib.hid R
    clear ho2 hg2 r1 hzp hzu bx1 fl1 rw1 B1 c3 hz fU cF b2 hi hz0 hz1 hz2 bx2 fl2 B2 hBw2 HO2 hFIN hKL hch IH R G hS rw3 bx4 fl4 rw4 bx3 fl3 B3 hBw3 hm2 hok hk0
    rw [hAg] at e0
    rw [← hL] at e0
    have hbg2 := hbg
    clear hbg
    generalize hw3 : (w2.setCell ⟨p, 3, none⟩ (.slice A2 (met.length + 1) cc2)) = w3 at f4 d4 P4 B4 hBw4 e0 hg2'
    go_wp2_with fail
    have hklS : KL ≤ 1000000 := by rw [HKL.out]; exact hKS.out
    generalize (w3.setCell ⟨p, 4, none⟩ (.int .i64 (max m deep))) = w4 at P4 B4 ⊢
    go_loopw [50] (fun v wr => ∃ (i : Nat) (mi : PrL), i ≤ KL ∧ v = .int .i64 (i : Nat) ∧ Hid (WIn wr B p U g mi) ∧ Hid (Below w0.heap.size w0 wr) ∧ Hid (goF (toF (chD g) N) ((kids.take i).map fun k => (k, k)) (((n : Int), (n : Int)) :: met) = (true, mi)) ∧ Hid (OkM g.ns.length g.ns.length mi ∧ mu g.ns.length g.ns.length mi < N)) (fun v _ => KL - (intOf v).toNat)
    case atStart => exact ⟨0, _, Nat.zero_le _, rfl, P4.out, B4.out, rfl, OK1.out⟩
    case round =>
      obtain ⟨i, mi, hi, rfl, hp, hb, hst, hou⟩ := hrel
      by_cases hlt : i < KL
      · have hltI : (i : Int) < (KL : Int) := by omega
        obtain ⟨bk, ok, hka, hbk, hkc⟩ := (hKN.out.below hb.out).get i (by show i < kids.length; rw [← HKL.out]; exact hlt)
        have hki := hRK.out (kids.getD i 0) (getD_mem (by rw [← HKL.out]; exact hlt))
        have htk : Hid (((kids.take (i + 1)).map fun k => (k, k)) = ((kids.take i).map fun k => (k, k)) ++ [(kids.getD i 0, kids.getD i 0)]) := by
          show _ = _
          rw [List.take_succ_eq_append_getElem (by rw [← HKL.out]; exact hlt), List.map_append, List.getD_eq_getElem?_getD, List.getElem?_eq_getElem (by rw [← HKL.out]; exact hlt)]
          rfl
        simp only at hka hkc
        generalize kids.getD i 0 = kk at hkc hki htk
        have hkin : Hid (InU g.ns.length g.ns.length (kk, kk)) := ⟨hki.1, hki.2, hki.1, hki.2⟩
        have TT : Hid (∀ dp : Int, Calls Tryd.prog 40 #[.pointer (some ⟨p, 0, none⟩), .int .i64 kk, .int .i64 dp] wr (WayPost w0 B p U g (toF (chD g) N mi (kk, kk)).2)) := fun dp => HI.out wr mi kk dp hb.out hp.out hou.out.1 hkin.out hou.out.2
        have TR : Hid (goF (toF (chD g) N) ((kids.take (i + 1)).map fun k => (k, k)) (((n : Int), (n : Int)) :: met) = (true, (toF (chD g) N mi (kk, kk)).2)) := by
          show _ = _
          rw [htk.out, goF_snoc hst.out, ← chD_true HGR.out hou.out.2 hkin.out]
        have TO : Hid (OkM g.ns.length g.ns.length (toF (chD g) N mi (kk, kk)).2 ∧ mu g.ns.length g.ns.length (toF (chD g) N mi (kk, kk)).2 < N) := ⟨toF_ok (chD_in HGR.out) N mi _ hou.out.1 hkin.out, Nat.lt_of_le_of_lt (mu_le (toF_sub _ N mi _)) hou.out.2⟩
        generalize (toF (chD g) N mi (kk, kk)).2 = m2 at TT TR TO
        subst hka
        go_wp2_with (go_at_call 40; (with_reducible refine (TT.out _).mono ?_); rintro e w5 ⟨rfl, hp5, hb5⟩)
        go_roundw
        case rel => exact ⟨i + 1, m2, by omega, by go_num, hp5, hb5, TR.out, TO.out⟩
        case measure => simp [intOf]; omega
      · obtain rfl : i = KL := by omega
        have HE : Hid (FIN = mi) := by
          have h9 := hst.out
          rw [HKL.out, List.take_length] at h9
          show _ = _
          rw [HFIN.out, h9]
        go_wp2_with fail
        go_end0
        unfold WayPost
        rw [HPOST.out, HE.out]
        exact ⟨rfl, hp.out, hb.out⟩
end Go.Proofs.YtpgncjfmaeiaaaaDoor.Is
