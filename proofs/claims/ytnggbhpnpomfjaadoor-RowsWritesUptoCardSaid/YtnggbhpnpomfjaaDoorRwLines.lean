/- Walks: strings.Lines; the program's Lines: a text's lines, over a range over a function. Conditions: the text is no longer than 2000000 bytes. -/
import Derived.Test.YtnggbhpnpomfjaaDoorRwIter
set_option linter.unusedVariables false
namespace Go.Proofs.YtnggbhpnpomfjaaDoor.Rw
open Go.RowKit Go.Shelf Bl
attribute [local go_sem] Oper.semAt_some
theorem slines_any (s : ByteArray) (w : World) : Calls Tryd.prog 73 #[.string s] w fun e w' => e = .returned (.func (.func 102) #[] #[.pointer (some ⟨w.heap.size, 0, none⟩)]) ∧ w' = w.alloc (.cells #[.string s] 9) := by
  go_enter Tryd.func73, Tryd.ntmps73
  go_wp2_with fail
  go_ret
  exact ⟨rfl, rfl⟩
theorem own_base {w : World} {b b' : Nat} {e : TypeId} {size n : Nat} {v : Value} {xs : List Value} (h : w.ownsRow b e size v n xs) (hb : b' ≤ b) : w.ownsRow b' e size v n xs := by
  refine ⟨h.1, ?_⟩
  rcases h.2 with h2 | ⟨g, cap, cur, hv, hge, r⟩
  · exact Or.inl h2
  · exact Or.inr ⟨g, cap, cur, hv, Nat.le_trans hb hge, r⟩
/-- what the caller of the loop holds between two rounds -/
structure LinesAt (w : World) (pre : List ByteArray) (W : World) : Prop where
  row : ∃ v, Boxed W w.heap.size 48 v ∧ W.ownsRow (w.heap.size + 2) 9 1 v pre.length (strVs (pre.map fun x => cutEnd x.data.toList))
  box : ∃ u, Boxed W (w.heap.size + 1) 9 (.string u)
  bel : Below w.heap.size w W
theorem LinesAt.other {w : World} {pre : List ByteArray} {W W' : World} (h : LinesAt w pre W) {l : Nat} (hg : W.grownBy W' (some l)) (hl : w.heap.size ≤ l) {o : Obj} (ho : W.heap[l]? = some o) (hc : o.isCells = false) : LinesAt w pre W' := by
  obtain ⟨⟨v, hv, hr⟩, ⟨u, hu⟩, hb⟩ := h
  refine ⟨⟨v, hv.kept hg ?_, hr.kept hg ?_⟩, ⟨u, hu.kept hg ?_⟩, hb.grown hg hb.size (fun k e => by cases e; exact hl)⟩
  · intro e; cases e; rw [show W.heap[w.heap.size]? = _ from hv] at ho; cases ho; cases hc
  · rcases hr.2 with ⟨rfl, _⟩ | ⟨g, cap, cur, rfl, _, hgb, _⟩
    · exact .inl rfl
    · refine .inr fun e => ?_
      obtain rfl : g = l := by simpa [Value.ownBlock] using e
      rw [hgb] at ho; cases ho; cases hc
  · intro e; cases e; rw [show W.heap[w.heap.size + 1]? = _ from hu] at ho; cases ho; cases hc
theorem LinesAt.alloc {w : World} {pre : List ByteArray} {W : World} (h : LinesAt w pre W) (o : Obj) : LinesAt w pre (W.alloc o) := by
  obtain ⟨⟨v, hv, hr⟩, ⟨u, hu⟩, hb⟩ := h
  exact ⟨⟨v, hv.alloc o, hr.alloc o⟩, ⟨u, hu.alloc o⟩, hb.alloc hb.size o⟩
theorem LinesAt.put {w : World} {pre : List ByteArray} {W : World} (h : LinesAt w pre W) (v : ByteArray) : LinesAt w pre (W.setCell ⟨w.heap.size + 1, 0, none⟩ (.string v)) := by
  obtain ⟨⟨x, hv, hr⟩, ⟨u, hu⟩, hb⟩ := h
  have hg := grownBy_setCell' W (w.heap.size + 1) (.string v)
  refine ⟨⟨x, hv.kept hg (by simp), hr.kept hg ?_⟩, ⟨v, hu.set _⟩, hb.setCell (p := ⟨w.heap.size + 1, 0, none⟩) (by simp) _⟩
  rcases hr.2 with ⟨rfl, _⟩ | ⟨g, cap, cur, rfl, hge, _⟩
  · exact .inl rfl
  · refine .inr fun e => ?_
    have : g = w.heap.size + 1 := by simpa [Value.ownBlock] using e
    omega
theorem LinesAt.drew {w : World} {pre : List ByteArray} {W : World} (h : LinesAt w pre W) : LinesAt w pre W.drew := by
  obtain ⟨⟨x, hv, hr⟩, ⟨u, hu⟩, hb⟩ := h
  exact ⟨⟨x, hv, hr⟩, ⟨u, hu⟩, hb.drew⟩
theorem LinesAt.app {w : World} {pre : List ByteArray} {W w1 : World} {x : ByteArray} {v v' : Value} {tmp : Obj} {y : ByteArray} (h : LinesAt w pre W) (hv : Boxed W w.heap.size 48 v) (hr : W.ownsRow (w.heap.size + 2) 9 1 v pre.length (strVs (pre.map fun x => cutEnd x.data.toList)))
    (hw : w.heap.size + 2 ≤ W.heap.size) (hown' : w1.ownsRow (w.heap.size + 2) 9 1 v' (pre.length + 1) (strVs (pre.map fun x => cutEnd x.data.toList) ++ [.string y])) (hgrow : (W.alloc tmp).grownBy w1 v.ownBlock) (hy : y.data.toList = cutEnd x.data.toList) :
    Boxed w1 w.heap.size 48 v ∧ KeepsOthers W (w1.setCell ⟨w.heap.size, 0, none⟩ v') ∧ (∀ u, Boxed W (w.heap.size + 1) 9 (.string u) → Boxed (w1.setCell ⟨w.heap.size, 0, none⟩ v') (w.heap.size + 1) 9 (.string u)) ∧ LinesAt w (pre ++ [x]) (w1.setCell ⟨w.heap.size, 0, none⟩ v') := by
  obtain ⟨_, ⟨u0, hu0⟩, hb⟩ := h
  have hne : ∀ k, k < w.heap.size + 2 → some k ≠ v.ownBlock := fun k hk e => by
    rcases hr.2 with ⟨rfl, _⟩ | ⟨g, cap, cur, rfl, hge, _⟩
    · simp [Value.ownBlock] at e
    · have : k = g := by simpa [Value.ownBlock] using e
      omega
  have hv1 : Boxed w1 w.heap.size 48 v := (hv.alloc tmp).kept hgrow (hne _ (by omega))
  have hbx : ∀ u, Boxed W (w.heap.size + 1) 9 (.string u) → Boxed (w1.setCell ⟨w.heap.size, 0, none⟩ v') (w.heap.size + 1) 9 (.string u) := fun u hu => ((hu.alloc tmp).kept hgrow (hne _ (by omega))).kept (grownBy_setCell' w1 w.heap.size v') (by simp)
  refine ⟨hv1, ?_, hbx, ⟨⟨v', hv1.set v', ?_⟩, ⟨u0, hbx u0 hu0⟩, ?_⟩⟩
  · refine ((KeepsOthers.alloc W tmp).trans (KeepsOthers.of_grownBy hgrow fun j o ej hj => ?_)).trans (KeepsOthers.setCell _ _ _)
    rcases (hr.alloc tmp).2 with ⟨rfl, _⟩ | ⟨g, cap, cur, rfl, _, hgb, _⟩
    · simp [Value.ownBlock] at ej
    · obtain rfl : g = j := by simpa [Value.ownBlock] using ej
      rw [hgb] at hj; cases hj; rfl
  · have e : strVs ((pre ++ [x]).map fun x => cutEnd x.data.toList) = strVs (pre.map fun x => cutEnd x.data.toList) ++ [.string y] := by
      have hyy : (⟨(cutEnd x.data.toList).toArray⟩ : ByteArray) = y := by rw [← hy]
      simp only [strVs, List.map_append, List.map_cons, List.map_nil, hyy]
    rw [e, List.length_append, List.length_singleton]
    refine hown'.kept (grownBy_setCell' w1 w.heap.size v') (.inr ?_)
    intro e
    rcases hown'.2 with ⟨rfl, h0⟩ | ⟨g, cap, cur, rfl, hge, _⟩
    · simp [Value.ownBlock] at e
    · have : g = w.heap.size := by simpa [Value.ownBlock] using e
      omega
  · refine ((hb.alloc hb.size tmp).grown hgrow (by simp; omega) fun j ej => ?_).setCell (p := ⟨w.heap.size, 0, none⟩) (Nat.le_refl _) v'
    rcases Nat.lt_or_ge j w.heap.size with h | h
    · exact absurd ej.symm (hne j (by omega))
    · exact h
set_option maxRecDepth 100000 in
set_option maxHeartbeats 1600000 in
theorem lines_any (s : ByteArray) (w : World) (hs : s.size ≤ 2000000) : Calls Tryd.prog 37 #[.string s] w fun e w' => ∃ row, e = .returned row ∧ w'.ownsRow w.heap.size 9 1 row (linesL s.data.toList).length (strVs (linesL s.data.toList)) ∧ Below w.heap.size w w' := by
  obtain ⟨i0, hi, hz0, hz1, hz2⟩ := info_parts bl_infoStr
  refine (callsIn_wide (n := 3)).1 ?_
  refine callsIn_of_wp_marks Tryd.func37 rfl trivial ?_ rfl
  simp only [Tryd.ntmps37, List.size_toArray, List.length_cons, List.length_nil, Nat.reduceAdd, Nat.reduceSub, Array.replicate_succ, Array.replicate_zero, List.push_toArray, List.append_toArray, List.nil_append, List.cons_append]
  gi_wp2
  refine ⟨trivial, (callsIn_wide.2 (slines_any s _)).mono ?_⟩
  rintro e w1 ⟨rfl, rfl⟩
  gi_wp2
  have hbO := (Boxed.new w 48 (.slice none 0 0)).alloc (.cells #[.string s] 9)
  have hbS := Boxed.new (w.alloc (.cells #[.slice none 0 0] 48)) 9 (.string s)
  rw [World.size_alloc] at hbS
  have hBel : Below w.heap.size w ((w.alloc (.cells #[.slice none 0 0] 48)).alloc (.cells #[.string s] 9)) := ((Below.refl _ w).alloc (Nat.le_refl _) _).alloc (by simp) _
  have hsz2 : ((w.alloc (.cells #[.slice none 0 0] 48)).alloc (.cells #[.string s] 9)).heap.size = w.heap.size + 2 := by simp
  generalize (w.alloc (.cells #[.slice none 0 0] 48)).alloc (.cells #[.string s] 9) = w2 at hbO hbS hBel hsz2 ⊢
  refine range_all (gf := 102) (lb := #[.pointer (some ⟨w.heap.size + 1, 0, none⟩)]) rfl (enters_of Tryd.func102 (by kernel_rfl) rfl)
    (fun x : ByteArray => #[Value.string x]) (fun _ => rfl) (fun xs => xs.map (fun x => x.data.toList) = piecesT s.data.toList) (fun pre x => pre.length < 2000000 ∧ x.size ≤ 2000000)
    (fun A B => ∀ u, Boxed A (w.heap.size + 1) 9 (.string u) → Boxed B (w.heap.size + 1) 9 (.string u)) (fun h k u hu => k u (h u hu))
    (fun W l o o' hl ho u hu => hu.kept (grownBy_putObj' W l o') (fun e => by cases e; rw [show W.heap[w.heap.size + 1]? = _ from hu] at hl; cases hl; cases ho))
    (LinesAt w) (fun s W l o o' h hl ho hc => h.other (grownBy_putObj' W l o') (by omega) ho hc) (fun s W o h => h.alloc o)
    ⟨⟨_, hbO, World.ownsRow_nil _ _ _ _⟩, ⟨s, hbS⟩, hBel⟩
    (fun x => { tmps := #[.string s, undef, .slice none 0 0, .pointer (some ⟨w.heap.size, 0, none⟩), .string x, undef, undef, .string s, .func (.func 102) #[] #[.pointer (some ⟨w.heap.size + 1, 0, none⟩)], .string x, undef, undef, undef, undef, undef, undef, undef, undef, undef, undef, undef, undef, undef], defers := [] })
    ?assign ?body ?iter ?done
  case assign =>
    intro l x W K hK
    gi_wp2
    exact hK
  case iter =>
    intro l J W h0 hJI hJK hY hbe
    exact callsIn_wide.1 (lines1_any l (w.heap.size + 1) J s hs (fun pre W v u hj hb => hJK _ _ _ hj (KeepsOthers.setCell _ _ _) ((hJI _ _ hj).put v)) (fun pre W hj => hJK _ _ _ hj (KeepsOthers.drew _) (hJI _ _ hj).drew) hY W ((hbe.block _ hbS.lt).trans hbS) h0)
  case body =>
    rintro l pre x W hI ⟨hp, hx⟩
    obtain ⟨v, hv, hrow⟩ := hI.row
    have hw : w.heap.size + 2 ≤ W.heap.size := by obtain ⟨u, hu⟩ := hI.box; have := hu.lt; omega
    have hc := hv.cell
    obtain ⟨t, ht⟩ : ∃ t : ByteArray, (⟨(Lib.trimSuffix x.data.toList [10]).toArray⟩ : ByteArray) = t := ⟨_, rfl⟩
    have htd : t.data.toList = Lib.trimSuffix x.data.toList [10] := by rw [← ht]
    have htz : t.size ≤ x.size := by
      rw [← bl_size, htd, ← bl_size]
      unfold Lib.trimSuffix
      split
      · rw [List.length_take]; omega
      · exact Nat.le_refl _
    obtain ⟨b, hb⟩ : ∃ b, Lib.hasSuffix x.data.toList [10] = b := ⟨_, rfl⟩
    have CS : Hid (∀ W, Calls Tryd.prog 74 #[.string x, .string ⟨#[10]⟩] W fun e w' => e = .returned (.tuple #[.string t, .bool b]) ∧ W = w') := fun W => by
      rw [← ht, ← hb]
      exact (Tryd.strings_CutSuffix x ⟨#[10]⟩ W (by omega)).mono fun e w' ⟨h1, h2⟩ => ⟨h1, h2.symm⟩
    have HI := Lib.hid hI
    have HV := Lib.hid hv
    have HR := Lib.hid hrow
    have HW := Lib.hid hw
    have HP := Lib.hid hp
    cases b with
    | true =>
      obtain ⟨y, hy⟩ : ∃ y : ByteArray, (⟨(Lib.trimSuffix t.data.toList [13]).toArray⟩ : ByteArray) = y := ⟨_, rfl⟩
      have TS : Hid (∀ W, Calls Tryd.prog 75 #[.string t, .string ⟨#[13]⟩] W fun e w' => e = .returned (.string y) ∧ W = w') := fun W => by
        rw [← hy]
        exact (Tryd.strings_TrimSuffix t ⟨#[13]⟩ W (by omega)).mono fun e w' ⟨h1, h2⟩ => ⟨h1, h2.symm⟩
      have HY : Hid (y.data.toList = cutEnd x.data.toList) := by
        show _ = _
        unfold cutEnd
        rw [if_pos hb, ← hy, htd]
        rfl
      clear hI hv hrow hw ht htd htz hb hy hp
      gi_wp2
      refine ⟨trivial, CallsIn.inRound l ((callsIn_wide.2 (CS.out _)).mono ?_)⟩
      rintro e w5 ⟨rfl, rfl⟩
      gi_wp2
      refine ⟨trivial, CallsIn.inRound l ((callsIn_wide.2 (TS.out _)).mono ?_)⟩
      rintro e w6 ⟨rfl, rfl⟩
      gi_wp2_with (gi_at_builtin; refine wpListIn_append_own _ rfl _ _ 48 rfl (w.heap.size + 2) 9 i0 (.string ⟨#[]⟩) 1 16 Tryd.underlying48 hi hz0 hz1 hz2 rfl (by decide) _ _ _ rfl (HR.out.alloc _) ⟨W.heap.size, 0, none⟩ 1 1 [.string y] rfl rfl (cell_one_new _ _ _) (by simp [Value.oneCell']) (by have := HP.out; unfold maxLen; omega) (by have := HP.out; omega) (by have := HW.out; simp; omega) ?_; intro v' w1 hown' hgrow _; obtain ⟨g', cap', rfl⟩ := ownsRow_succ hown'; obtain ⟨hv1, hk2, hb2, hI2⟩ := HI.out.app HV.out HR.out HW.out hown' hgrow HY.out; have hc1 := hv1.cell; have hf1 := hv1.frozen)
      exact ⟨hk2, hb2, hI2⟩
    | false =>
      have hxt : t = x := by
        refine bl_str_ext2 ?_
        rw [htd]
        unfold Lib.trimSuffix
        rw [hb]
        rfl
      have HY : Hid (x.data.toList = cutEnd x.data.toList) := by
        show _ = _
        unfold cutEnd
        rw [hb]
        rfl
      clear hI hv hrow hw ht htd htz hb hp
      subst hxt
      gi_wp2
      refine ⟨trivial, CallsIn.inRound l ((callsIn_wide.2 (CS.out _)).mono ?_)⟩
      rintro e w5 ⟨rfl, rfl⟩
      gi_wp2_with (gi_at_builtin; refine wpListIn_append_own _ rfl _ _ 48 rfl (w.heap.size + 2) 9 i0 (.string ⟨#[]⟩) 1 16 Tryd.underlying48 hi hz0 hz1 hz2 rfl (by decide) _ _ _ rfl (HR.out.alloc _) ⟨W.heap.size, 0, none⟩ 1 1 [.string t] rfl rfl (cell_one_new _ _ _) (by simp [Value.oneCell']) (by have := HP.out; unfold maxLen; omega) (by have := HP.out; omega) (by have := HW.out; simp; omega) ?_; intro v' w1 hown' hgrow _; obtain ⟨g', cap', rfl⟩ := ownsRow_succ hown'; obtain ⟨hv1, hk2, hb2, hI2⟩ := HI.out.app HV.out HR.out HW.out hown' hgrow HY.out; have hc1 := hv1.cell; have hf1 := hv1.frozen)
      exact ⟨hk2, hb2, hI2⟩
  case done =>
    rintro D xs W hD hS hI hK
    obtain ⟨v, hv, hrow⟩ := hI.row
    have hc := hv.cell
    gi_wp2
    refine ⟨by simp, .inl ⟨_, _, rfl, run_takeDeferred hK, ?_⟩⟩
    refine ⟨_, results_tmp rfl _ _ _, v, rfl, ?_, hI.bel.trans (belowK_b (w := w) (Nat.le_refl _) W D _ _ (by omega) hK rfl rfl)⟩
    have e : linesL s.data.toList = xs.map fun x => cutEnd x.data.toList := by
      rw [← pieces_cut, ← hS, List.map_map]; rfl
    have hl : (linesL s.data.toList).length = xs.length := by rw [e, List.length_map]
    rw [hl, e]
    exact own_base (ownsRow_putObj hrow (.deferred none) hK rfl) (by omega)
end Go.Proofs.YtnggbhpnpomfjaaDoor.Rw
