/- Walks: a style's mark, the program's and the document's; a style told from a text, the document's; a style as the other package's. Conditions: none. -/
import Derived.Test.YtnggbhpnpomfjaaBlFlat
import Derived.Laws.BytesArg
import Derived.Lib.SlBytesConst
set_option linter.unusedVariables false
namespace Go.Proofs.Ytnggbhpnpomfjaa
open Go.RowKit
theorem strOf_cells (l : List UInt8) : strOfNums (l.map fun c => (c.toNat : Int)) = ⟨l.toArray⟩ := by
  have h : (strOfNums (l.map fun c => (c.toNat : Int))).data.toList = l := by
    rw [strOfNums_data, List.map_map]
    simp [Function.comp_def]
  generalize strOfNums (l.map fun c => (c.toNat : Int)) = x at h
  obtain ⟨d⟩ := x
  simp only at h
  rw [← h, Array.toArray_toList]
theorem bl_conv_cells (w : World) (b off cap : Nat) (l : List UInt8) (h : ∀ i, i < l.length → w.cell? ⟨b, off + i, none⟩ = some (.int .u8 ((l.getD i 0).toNat : Int))) :
    (convert 39 9 (.slice (some ⟨b, off, none⟩) l.length cap)).run Try.prog w = .ok (.string ⟨l.toArray⟩) w := by
  rw [← strOf_cells l]
  refine run_convert_bytes_arg w 39 5 Try.underlying39 Try.underlying5 b off l.length cap _ (by simp) (fun i hi => ?_) _ Try.underlying9
  rw [h i hi]
  simp [List.getD_eq_getElem?_getD, hi]
theorem bl_conv_own {w : World} {base : Nat} {v : Value} (l : List UInt8) (h : w.ownsRow base 5 1 v l.length (Lib.byteCells l)) :
    (convert 39 9 v).run Try.prog w = .ok (.string ⟨l.toArray⟩) w := by
  rcases h.2 with ⟨rfl, h0⟩ | ⟨g, cap, cur, rfl, _, hh, _, _, hc, ht⟩
  · have hl : l = [] := List.eq_nil_of_length_eq_zero h0
    subst hl
    exact run_convert_bytes_nil w 39 5 Try.underlying39 Try.underlying5 0 0 9 Try.underlying9
  · refine bl_conv_cells w g 0 cap l (fun i hi => ?_)
    rw [Nat.zero_add, cell_of_row w g i cur _ _ hh]
    have e : cur.toList[i]? = (Lib.byteCells l)[i]? := by rw [← ht, List.getElem?_take, if_pos (by omega)]
    rw [← Array.getElem?_toList, e]
    simp [Lib.byteCells, List.getD_eq_getElem?_getD, hi]
theorem wpList_append_ran {P : Program} {w w' : World} {ops : Array Oper} {rest : List Oper} {o : Oper} {a : Act} {Q : Exit → Act → World → Prop} (hg : Region.wanted o (yielded ops a.tmps) = true) (s x : Operand) (t : TypeId)
    (ho : o.op = .call { callee := .builtin .append, args := #[s, x], argTypes := #[t, t] }) (v u r : Value) (hs : a.eval s = v) (hx : a.eval x = u)
    (hrun : (Builtin.append_ #[t, t] o.type #[v, u]).run P w = .ok r w') (h : wpList P ops Q rest (a.put o.dst r) w') : wpList P ops Q (o :: rest) a w := by
  refine wpList_step fun K hK => ?_
  rw [if_pos hg]
  unfold Oper.wp
  simp [execOp, ho, resolve, invoke, builtin, hs, hx, hrun, Result.andThen]
  exact hK _ _ h
theorem append_two (Y : World) (b1 b2 : Nat) (p q : UInt8) (c0 : Y.cell? ⟨b1, 0, none⟩ = some (.int .u8 (p.toNat : Int))) (c1 : Y.cell? ⟨b2, 0, none⟩ = some (.int .u8 (q.toNat : Int))) :
    ∃ g cap Z, (Builtin.append_ #[39, 39] 39 #[.slice (some ⟨b1, 0, none⟩) 1 1, .slice (some ⟨b2, 0, none⟩) 1 1]).run Try.prog Y = .ok (.slice (some ⟨g, 0, none⟩) 2 cap) Z ∧ (convert 39 9 (.slice (some ⟨g, 0, none⟩) 2 cap)).run Try.prog Z = .ok (.string ⟨#[p, q]⟩) Z ∧ Below Y.heap.size Y Z := by
  obtain ⟨i0, hi, hz0, hz1, hz2⟩ := info_parts infoByte
  have hr := run_append_grow (P := Try.prog) Y 39 39 5 i0 (.int .u8 0) Try.underlying39 hi hz0 ⟨b1, 0, none⟩ 1 1 [.int .u8 (p.toNat : Int)] (by rw [hz1]; rfl) (fun j v hj => by
    rcases j with _ | j
    · simp at hj; subst hj; simpa [Addr.add] using c0
    · simp at hj) ⟨b2, 0, none⟩ 1 1 [.int .u8 (q.toNat : Int)] (by rw [hz1]; rfl) (fun j v hj => by
    rcases j with _ | j
    · simp at hj; subst hj; simpa [Addr.add] using c1
    · simp at hj) (by omega) (by omega) (by rw [hz2]; have := nextslicecap_le (need := 1 + 1) (old := 1) (by omega); omega)
  refine ⟨_, _, _, hr, ?_, ?_⟩
  · refine bl_conv_cells _ _ 0 _ [p, q] (fun i hi => ?_)
    have hh := heap_alloc_new Y.drew (.cells ([Value.int .u8 (p.toNat : Int)].toArray ++ [Value.int .u8 (q.toNat : Int)].toArray ++ Builtin.zeroCells (Value.int .u8 0).cells (grownCap Y (1 + 1) 1 5 - (1 + 1))) 5)
    rw [Nat.zero_add]
    have hh2 := bl_block_cell (g := Y.heap.size) hh i
    rw [hh2]
    obtain rfl | rfl : i = 0 ∨ i = 1 := by have : i < 2 := hi; omega
    · simp only [List.append_toArray, List.cons_append, List.nil_append]; rw [Array.getElem?_append_left (by simp)]; rfl
    · simp only [List.append_toArray, List.cons_append, List.nil_append]; rw [Array.getElem?_append_left (by simp)]; rfl
  · exact (Below.refl _ _).drew.alloc (Nat.le_refl _) _
set_option maxHeartbeats 1600000 in
theorem mark_any (f : Bool) (c : Int) (w : World) : Calls Try.prog 20 #[.agg #[.bool f, .int .i64 c]] w fun e w' => e = .returned (.string ⟨(markL f c).toArray⟩) ∧ Below w.heap.size w w' := by
  have hcv := Lib.run_convert_bytes_const (P := Try.prog) (w.alloc (.cells #[.bool f, .int .i64 c] 35)) 39 5 #[.int .u8 124] 1 1 Try.underlying39 Try.underlying5
  rw [show (w.alloc (.cells #[.bool f, .int .i64 c] 35)).heap.size = w.heap.size + 1 by simp] at hcv
  obtain ⟨X, hX⟩ : ∃ X, X = (w.alloc (.cells #[.bool f, .int .i64 c] 35)).alloc (.cells #[.int .u8 124] 5 (1, 2)) := ⟨_, rfl⟩
  have hxb : Below w.heap.size w X := by rw [hX]; exact ((Below.refl _ _).alloc (Nat.le_refl _) _).alloc (by simp) _
  have h0 : X.heap[w.heap.size]? = some (.cells #[.bool f, .int .i64 c] 35 (0, 0)) := by rw [hX]; exact two_first _ _ _ _
  have h1 : X.heap[w.heap.size + 1]? = some (.cells #[.int .u8 124] 5 (1, 2)) := by
    have := heap_alloc_new (w.alloc (.cells #[.bool f, .int .i64 c] 35)) (.cells #[.int .u8 124] 5 (1, 2))
    rw [hX]; simpa using this
  have hxs : X.heap.size = w.heap.size + 2 := by rw [hX]; simp
  have y0 := bl_block_cell h0 0
  have y1 := bl_block_cell h0 1
  have y2 := bl_block_cell h1 0
  have y3 : X.frozen? ⟨w.heap.size + 1, 0, none⟩ = false := by simp [World.frozen?, h1]
  have hcv' : (convert 39 39 (.slice (some ⟨w.heap.size + 1, 0, none⟩) 1 1)).run Try.prog ((w.alloc (.cells #[.bool f, .int .i64 c] 35)).alloc (.cells #[.int .u8 124] 5)) = .ok (.slice (some ⟨w.heap.size + 1, 0, none⟩) 1 1) X := by rw [hX]; exact hcv
  have HXB := Lib.hid hxb
  have HXS := Lib.hid hxs
  have H0 := Lib.hid h0
  have H1 := Lib.hid h1
  clear hcv hX hxb hxs h0 h1
  obtain ⟨V, hV⟩ : ∃ V, V = (if f = true then X.setCell ⟨w.heap.size + 1, 0, none⟩ (.int .u8 62) else X) := ⟨_, rfl⟩
  have hvb : Below w.heap.size w V := by
    rw [hV]; split
    · exact HXB.out.setCell (p := ⟨w.heap.size + 1, 0, none⟩) (by simp) _
    · exact HXB.out
  have hvs : V.heap.size = w.heap.size + 2 := by
    rw [hV]; split
    · simp [World.setCell, HXS.out]
    · exact HXS.out
  have v1 : V.cell? ⟨w.heap.size, 1, none⟩ = some (.int .i64 c) := by
    rw [hV]; split
    · rw [bl_cell_other _ _ _ _ (by simp)]; exact y1
    · exact y1
  have v2 : V.cell? ⟨w.heap.size + 1, 0, none⟩ = some (.int .u8 (((if f = true then 62 else 124 : UInt8)).toNat : Int)) := by
    rw [hV]; split
    · simp [World.cell?, World.setCell, Array.getElem?_modify, H1.out]
    · exact y2
  have VB := Lib.hid hvb
  have VS := Lib.hid hvs
  have V2 := Lib.hid v2
  clear hvb hvs v2
  have hVf : f = true → V = X.setCell ⟨w.heap.size + 1, 0, none⟩ (.int .u8 62) := fun h => by rw [hV, if_pos h]
  have hVg : f = false → V = X := fun h => by rw [hV, h]; rfl
  have HVF := Lib.hid hVf
  have HVG := Lib.hid hVg
  clear hV hVf hVg
  cases hf : f
  case false =>
    subst hf
    have e := (HVG.out rfl).symm
    clear HVF HVG
    subst e
    by_cases k1 : c = 1
    · have HM : Hid (markL false c = [124, 45]) := by show _ = _; rw [k1]; rfl
      have g1 : (c == 1) = true := by rw [k1]; rfl
      have g2 : (c == 2) = false := by rw [k1]; rfl
      clear k1
      have hlt := bl_block_lt H1.out
      have hy := heap_alloc_new X (.cells #[.int .u8 45] 5)
      rw [VS.out] at hy
      obtain ⟨gg, cap, Z, hrun, hcz, hbz⟩ := append_two (World.alloc X (.cells #[.int .u8 45] 5)) (w.heap.size + 1) (w.heap.size + 2) 124 45 (((Below.refl _ _).alloc (Nat.le_refl _) _).cell (p := ⟨w.heap.size + 1, 0, none⟩) (by rw [VS.out]; simp) |>.trans V2.out) (bl_block_cell hy 0)
      have HRUN := Lib.hid hrun
      have HZ : Hid (Below w.heap.size w Z) := (VB.out.alloc VB.out.size _).trans (hbz.mono (VB.out.alloc VB.out.size _).size)
      have vs := VS.out
      clear hrun hbz hy hlt
      go_enter Try.func20, Try.ntmps20
      go_wp2_with (at_builtin; refine wpList_append_ran (by rfl) _ _ 39 rfl _ _ _ rfl (by simp [Act.eval]) HRUN.out ?_)
      go_ret
      exact ⟨by rw [HM.out]; rfl, HZ.out⟩
    · have kk := k1
      by_cases k2 : c = 2
      · have HM : Hid (markL false c = [124, 43]) := by show _ = _; rw [k2]; rfl
        have g1 : (c == 1) = false := by rw [k2]; rfl
        have g2 : (c == 2) = true := by rw [k2]; rfl
        clear k1 k2
        have hlt := bl_block_lt H1.out
        have hy := heap_alloc_new X (.cells #[.int .u8 43] 5)
        rw [VS.out] at hy
        obtain ⟨gg, cap, Z, hrun, hcz, hbz⟩ := append_two (World.alloc X (.cells #[.int .u8 43] 5)) (w.heap.size + 1) (w.heap.size + 2) 124 43 (((Below.refl _ _).alloc (Nat.le_refl _) _).cell (p := ⟨w.heap.size + 1, 0, none⟩) (by rw [VS.out]; simp) |>.trans V2.out) (bl_block_cell hy 0)
        have HRUN := Lib.hid hrun
        have HZ : Hid (Below w.heap.size w Z) := (VB.out.alloc VB.out.size _).trans (hbz.mono (VB.out.alloc VB.out.size _).size)
        have vs := VS.out
        clear hrun hbz hy hlt
        go_enter Try.func20, Try.ntmps20
        go_wp2_with (at_builtin; refine wpList_append_ran (by rfl) _ _ 39 rfl _ _ _ rfl (by simp [Act.eval]) HRUN.out ?_)
        go_ret
        exact ⟨by rw [HM.out]; rfl, HZ.out⟩
      · have HM : Hid (markL false c = [124]) := by show _ = _; unfold markL; rw [if_neg k1, if_neg k2]; rfl
        have g1 : (c == 1) = false := by simpa using k1
        have g2 : (c == 2) = false := by simpa using k2
        have hcz : (convert 39 9 (.slice (some ⟨w.heap.size + 1, 0, none⟩) 1 1)).run Try.prog X = .ok (.string ⟨#[124]⟩) X := bl_conv_cells X (w.heap.size + 1) 0 1 [124] (fun i hi => by
          obtain rfl : i = 0 := by have : i < 1 := hi; omega
          exact V2.out)
        clear k1 k2 kk
        go_enter Try.func20, Try.ntmps20
        go_wp2_with fail
        go_ret
        exact ⟨by rw [HM.out]; rfl, VB.out⟩
  case true =>
    subst hf
    have e := (HVF.out rfl).symm
    clear HVF HVG
    subst e
    by_cases k1 : c = 1
    · have HM : Hid (markL true c = [62, 45]) := by show _ = _; rw [k1]; rfl
      have g1 : (c == 1) = true := by rw [k1]; rfl
      have g2 : (c == 2) = false := by rw [k1]; rfl
      clear k1
      have hlt := bl_block_lt H1.out
      have hy := heap_alloc_new (X.setCell ⟨w.heap.size + 1, 0, none⟩ (.int .u8 62)) (.cells #[.int .u8 45] 5)
      rw [VS.out] at hy
      obtain ⟨gg, cap, Z, hrun, hcz, hbz⟩ := append_two (World.alloc (X.setCell ⟨w.heap.size + 1, 0, none⟩ (.int .u8 62)) (.cells #[.int .u8 45] 5)) (w.heap.size + 1) (w.heap.size + 2) 62 45 (((Below.refl _ _).alloc (Nat.le_refl _) _).cell (p := ⟨w.heap.size + 1, 0, none⟩) (by rw [VS.out]; simp) |>.trans V2.out) (bl_block_cell hy 0)
      have HRUN := Lib.hid hrun
      have HZ : Hid (Below w.heap.size w Z) := (VB.out.alloc VB.out.size _).trans (hbz.mono (VB.out.alloc VB.out.size _).size)
      have vs := VS.out
      clear hrun hbz hy hlt
      go_enter Try.func20, Try.ntmps20
      go_wp2_with (at_builtin; refine wpList_append_ran (by rfl) _ _ 39 rfl _ _ _ rfl (by simp [Act.eval]) HRUN.out ?_)
      go_ret
      exact ⟨by rw [HM.out]; rfl, HZ.out⟩
    · have kk := k1
      by_cases k2 : c = 2
      · have HM : Hid (markL true c = [62, 43]) := by show _ = _; rw [k2]; rfl
        have g1 : (c == 1) = false := by rw [k2]; rfl
        have g2 : (c == 2) = true := by rw [k2]; rfl
        clear k1 k2
        have hlt := bl_block_lt H1.out
        have hy := heap_alloc_new (X.setCell ⟨w.heap.size + 1, 0, none⟩ (.int .u8 62)) (.cells #[.int .u8 43] 5)
        rw [VS.out] at hy
        obtain ⟨gg, cap, Z, hrun, hcz, hbz⟩ := append_two (World.alloc (X.setCell ⟨w.heap.size + 1, 0, none⟩ (.int .u8 62)) (.cells #[.int .u8 43] 5)) (w.heap.size + 1) (w.heap.size + 2) 62 43 (((Below.refl _ _).alloc (Nat.le_refl _) _).cell (p := ⟨w.heap.size + 1, 0, none⟩) (by rw [VS.out]; simp) |>.trans V2.out) (bl_block_cell hy 0)
        have HRUN := Lib.hid hrun
        have HZ : Hid (Below w.heap.size w Z) := (VB.out.alloc VB.out.size _).trans (hbz.mono (VB.out.alloc VB.out.size _).size)
        have vs := VS.out
        clear hrun hbz hy hlt
        go_enter Try.func20, Try.ntmps20
        go_wp2_with (at_builtin; refine wpList_append_ran (by rfl) _ _ 39 rfl _ _ _ rfl (by simp [Act.eval]) HRUN.out ?_)
        go_ret
        exact ⟨by rw [HM.out]; rfl, HZ.out⟩
      · have HM : Hid (markL true c = [62]) := by show _ = _; unfold markL; rw [if_neg k1, if_neg k2]; rfl
        have g1 : (c == 1) = false := by simpa using k1
        have g2 : (c == 2) = false := by simpa using k2
        have hcz : (convert 39 9 (.slice (some ⟨w.heap.size + 1, 0, none⟩) 1 1)).run Try.prog (X.setCell ⟨w.heap.size + 1, 0, none⟩ (.int .u8 62)) = .ok (.string ⟨#[62]⟩) (X.setCell ⟨w.heap.size + 1, 0, none⟩ (.int .u8 62)) := bl_conv_cells (X.setCell ⟨w.heap.size + 1, 0, none⟩ (.int .u8 62)) (w.heap.size + 1) 0 1 [62] (fun i hi => by
          obtain rfl : i = 0 := by have : i < 1 := hi; omega
          exact V2.out)
        clear k1 k2 kk
        go_enter Try.func20, Try.ntmps20
        go_wp2_with fail
        go_ret
        exact ⟨by rw [HM.out]; rfl, VB.out⟩
theorem rmark_any (f : Bool) (c : Int) (w : World) : Calls Try.prog 21 #[.agg #[.bool f, .int .i64 c]] w fun e w' => e = .returned (.string ⟨(markL f c).toArray⟩) ∧ Below w.heap.size w w' := by
  have HX := Lib.hid ((Below.refl w.heap.size w).alloc (Nat.le_refl _) (.cells #[.bool f, .int .i64 c] 28))
  cases f
  case false =>
    by_cases k1 : c = 1
    · have HM : Hid (markL false c = [124, 45]) := by show _ = _; rw [k1]; rfl
      have g1 : (c == 1) = true := by rw [k1]; rfl
      have g2 : (c == 2) = false := by rw [k1]; rfl
      have hadd : (⟨#[124]⟩ : ByteArray).size + (⟨#[45]⟩ : ByteArray).size ≤ 9223372036854775807 := by show 1 + 1 ≤ 9223372036854775807; omega
      clear k1
      go_enter Try.func21, Try.ntmps21
      go_wp2_with fail
      go_ret
      exact ⟨by rw [HM.out]; exact str_ret rfl, HX.out⟩
    · have kk := k1
      by_cases k2 : c = 2
      · have HM : Hid (markL false c = [124, 43]) := by show _ = _; rw [k2]; rfl
        have g1 : (c == 1) = false := by rw [k2]; rfl
        have g2 : (c == 2) = true := by rw [k2]; rfl
        have hadd : (⟨#[124]⟩ : ByteArray).size + (⟨#[43]⟩ : ByteArray).size ≤ 9223372036854775807 := by show 1 + 1 ≤ 9223372036854775807; omega
        clear k1 k2
        go_enter Try.func21, Try.ntmps21
        go_wp2_with fail
        go_ret
        exact ⟨by rw [HM.out]; exact str_ret rfl, HX.out⟩
      · have HM : Hid (markL false c = [124]) := by show _ = _; unfold markL; rw [if_neg k1, if_neg k2]; rfl
        have g1 : (c == 1) = false := by simpa using k1
        have g2 : (c == 2) = false := by simpa using k2
        clear k1 k2 kk
        go_enter Try.func21, Try.ntmps21
        go_wp2_with fail
        go_ret
        exact ⟨by rw [HM.out]; rfl, HX.out⟩
  case true =>
    by_cases k1 : c = 1
    · have HM : Hid (markL true c = [62, 45]) := by show _ = _; rw [k1]; rfl
      have g1 : (c == 1) = true := by rw [k1]; rfl
      have g2 : (c == 2) = false := by rw [k1]; rfl
      have hadd : (⟨#[62]⟩ : ByteArray).size + (⟨#[45]⟩ : ByteArray).size ≤ 9223372036854775807 := by show 1 + 1 ≤ 9223372036854775807; omega
      clear k1
      go_enter Try.func21, Try.ntmps21
      go_wp2_with fail
      go_ret
      exact ⟨by rw [HM.out]; exact str_ret rfl, HX.out⟩
    · have kk := k1
      by_cases k2 : c = 2
      · have HM : Hid (markL true c = [62, 43]) := by show _ = _; rw [k2]; rfl
        have g1 : (c == 1) = false := by rw [k2]; rfl
        have g2 : (c == 2) = true := by rw [k2]; rfl
        have hadd : (⟨#[62]⟩ : ByteArray).size + (⟨#[43]⟩ : ByteArray).size ≤ 9223372036854775807 := by show 1 + 1 ≤ 9223372036854775807; omega
        clear k1 k2
        go_enter Try.func21, Try.ntmps21
        go_wp2_with fail
        go_ret
        exact ⟨by rw [HM.out]; exact str_ret rfl, HX.out⟩
      · have HM : Hid (markL true c = [62]) := by show _ = _; unfold markL; rw [if_neg k1, if_neg k2]; rfl
        have g1 : (c == 1) = false := by simpa using k1
        have g2 : (c == 2) = false := by simpa using k2
        clear k1 k2 kk
        go_enter Try.func21, Try.ntmps21
        go_wp2_with fail
        go_ret
        exact ⟨by rw [HM.out]; rfl, HX.out⟩
end Go.Proofs.Ytnggbhpnpomfjaa
