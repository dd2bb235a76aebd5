/- Walks: slices.Values, slices.AppendSeq, slices.Collect at a pile of entries. Conditions: the pile lies below. -/
import Derived.Test.YtiaonfmdjipekaaRfLaw
import Derived.Test.YtiaonfmdjipekaaLsAlive
set_option linter.unusedVariables false
namespace Go.Proofs.Ytiaonfmdjipekaa.Ls
open Go.RowKit Go.Shelf
attribute [local go_sem] Oper.semAt_some
def ptrE (x : Ent) : Value := .pointer (some ⟨x.blk, 0, none⟩)
/-- blocks of cells below n are kept -/
def KpC (n : Nat) (a b : World) : Prop := ∀ k cs t fr, k < n → a.heap[k]? = some (.cells cs t fr) → b.heap[k]? = some (.cells cs t fr)
theorem KpC.refl (n : Nat) (a : World) : KpC n a a := fun _ _ _ _ _ h => h
theorem KpC.trans {n : Nat} {a b c : World} (h : KpC n a b) (k : KpC n b c) : KpC n a c := fun i cs t fr hi e => k i cs t fr hi (h i cs t fr hi e)
theorem KpC.of_below {n : Nat} {a b : World} (h : Below n a b) : KpC n a b := fun i cs t fr hi e => (h.block i hi).trans e
theorem KpC.put (n : Nat) (W : World) (l : Nat) (o o' : Obj) (hl : W.heap[l]? = some o) (hc : o.isCells = false) : KpC n W (W.putObj l o') := fun k cs t fr hk e => by
  have hne : k ≠ l := fun x => by rw [x, hl] at e; cases e; cases hc
  rw [World.putObj_heap_other hne]
  exact e
/-- the pile's cells -/
def PCells (W : World) (n : Nat) (A : Option Addr) (h : List Ent) : Prop := ∀ j, j < h.length → ∃ g cs t, A = some ⟨g, 0, none⟩ ∧ g < n ∧ W.heap[g]? = some (.cells cs t (0, 0)) ∧ cs[j]? = some (ptrE (h.getD j ent0))
theorem PCells.kept {W W' : World} {n : Nat} {A : Option Addr} {h : List Ent} (p : PCells W n A h) (k : KpC n W W') : PCells W' n A h := fun j hj => by
  obtain ⟨g, cs, t, h1, h2, h3, h4⟩ := p j hj
  exact ⟨g, cs, t, h1, h2, k g cs t _ h2 h3, h4⟩
set_option maxRecDepth 100000 in
set_option maxHeartbeats 1600000 in
theorem vclos_any (l Bs n₀ : Nat) (A : Option Addr) (c : Nat) (h : List Ent) (J : List Ent → World → Prop) (hn : h.length ≤ 1024)
    (hY : ∀ pre (x : Ent) W, J pre W → pre.length < 1024 → YieldAt Fence.wide 3 Try.prog l #[ptrE x] W fun e W' => e = .returned (.bool true) ∧ J (pre ++ [x]) W' ∧ KpC n₀ W W')
    (W : World) (hBs : W.cell? ⟨Bs, 0, none⟩ = some (.slice A h.length c)) (hc : PCells W n₀ A h) (h0 : J [] W) :
    CallsIn Fence.wide 4 Try.prog 40 #[.func (.yield l) #[] #[], .pointer (some ⟨Bs, 0, none⟩)] W fun e W' => (∃ v, e = .returned v) ∧ ∃ xs : List Ent, xs = h ∧ J xs W' := by
  have HC := Lib.hid hc
  obtain ⟨n, hnn⟩ : ∃ n, n = h.length := ⟨_, rfl⟩
  rw [← hnn] at hBs hn
  have HN := Lib.hid hnn
  have TK : Hid (∀ k, k < n → h.take k ++ [h.getD k ent0] = h.take (k + 1)) := fun k hk => by
    rw [HN.out] at hk
    rw [List.take_add_one, List.getElem?_eq_getElem hk, List.getD_eq_getElem?_getD, List.getElem?_eq_getElem hk]
    rfl
  have TA : Hid (h.take n = h) := by show _ = _; rw [HN.out, List.take_length]
  have TL : Hid (∀ k, k < n → (h.take k).length < 1024) := fun k hk => by
    rw [List.length_take]; omega
  have HY := Lib.hid hY
  clear hc hY hnn
  refine callsIn_of_wp Try.func40 rfl trivial ?_ rfl
  simp only [Try.ntmps40, List.size_toArray, List.length_cons, List.length_nil, Nat.reduceAdd, Nat.reduceSub, Array.replicate_succ, Array.replicate_zero, List.push_toArray, List.append_toArray, List.nil_append, List.cons_append]
  gi_wp2
  gi_loopw [7] (fun i wr => ∃ k : Nat, k ≤ n ∧ i = .int .i64 (k : Nat) ∧ Hid (J (h.take k) wr) ∧ Hid (KpC n₀ W wr)) (fun i _ => n - (intOf i).toNat)
  case atStart => exact ⟨0, Nat.zero_le _, rfl, h0, KpC.refl _ _⟩
  case round =>
    obtain ⟨k, hk, rfl, hJ, hb⟩ := hrel
    by_cases hlt : k < n
    · obtain ⟨g, cs, t, hA, hg, hblk, hcell⟩ := (HC.out.kept hb.out) k (by rw [← HN.out]; exact hlt)
      subst hA
      have hc2 : wr.cell? ⟨g, k, none⟩ = some (ptrE (h.getD k ent0)) := (bcell hblk k).trans hcell
      obtain ⟨fn, tmps, assign, body, hy, hR⟩ := HY.out (h.take k) (h.getD k ent0) wr hJ.out (TL.out k hlt)
      have HTK := Lib.hid (TK.out k hlt)
      generalize ptrE (h.getD k ent0) = pv at hy hc2 hcell
      have hkI : (k : Int) < (n : Int) := by omega
      clear hcell hblk
      gi_wp2
      refine hR.mono ?_
      rintro e W3 ⟨rfl, hJ3, hk3⟩
      rw [HTK.out] at hJ3
      have HJ3 := Lib.hid hJ3
      have HB3 := Lib.hid (hb.out.trans hk3)
      clear hJ3 hk3
      gi_wp2
      go_roundw
      case rel => exact ⟨k + 1, by omega, by go_num, HJ3.out, HB3.out⟩
      case measure => simp [intOf]; omega
    · obtain rfl : k = n := by omega
      have HJ2 := Lib.hid (TA.out ▸ hJ.out)
      gi_wp2
      go_end0
      exact ⟨⟨_, rfl⟩, h, rfl, HJ2.out⟩
theorem infoE : (Try.prog.info? 62).map (fun i => (i.zero, i.size, i.bytes)) = some (some (.pointer none), 1, 8) := by kernel_rfl
theorem ptrs_app (pre : List Ent) (x : Ent) : ptrs (pre ++ [x]) = ptrs pre ++ [ptrE x] := by simp [ptrs, ptrE]
/-- what AppendSeq holds between two rounds -/
structure ApAt (w : World) (pre : List Ent) (W : World) : Prop where
  row : ∃ v, Boxed W w.heap.size 55 v ∧ W.ownsRow (w.heap.size + 1) 62 1 v pre.length (ptrs pre)
  bel : Below w.heap.size w W
theorem ApAt.other {w : World} {pre : List Ent} {W W' : World} (h : ApAt w pre W) {l : Nat} (hg : W.grownBy W' (some l)) (hl : w.heap.size ≤ l) {o : Obj} (ho : W.heap[l]? = some o) (hc : o.isCells = false) : ApAt w pre W' := by
  obtain ⟨⟨v, hv, hr⟩, hb⟩ := h
  refine ⟨⟨v, hv.kept hg ?_, hr.kept hg ?_⟩, hb.grown hg hb.size (fun k e => by cases e; exact hl)⟩
  · intro e; cases e; rw [show W.heap[w.heap.size]? = _ from hv] at ho; cases ho; cases hc
  · rcases hr.2 with ⟨rfl, _⟩ | ⟨g, cap, cur, rfl, _, hgb, _⟩
    · exact .inl rfl
    · refine .inr fun e => ?_
      obtain rfl : g = l := by simpa [Value.ownBlock] using e
      rw [hgb] at ho; cases ho; cases hc
theorem ApAt.alloc {w : World} {pre : List Ent} {W : World} (h : ApAt w pre W) (o : Obj) : ApAt w pre (W.alloc o) := by
  obtain ⟨⟨v, hv, hr⟩, hb⟩ := h
  exact ⟨⟨v, hv.alloc o, hr.alloc o⟩, hb.alloc hb.size o⟩
theorem ApAt.app {w : World} {pre : List Ent} {W w1 : World} {x : Ent} {v v' : Value} {tmp : Obj} (h : ApAt w pre W) (hv : Boxed W w.heap.size 55 v) (hr : W.ownsRow (w.heap.size + 1) 62 1 v pre.length (ptrs pre))
    (hw : w.heap.size + 1 ≤ W.heap.size) (hown' : w1.ownsRow (w.heap.size + 1) 62 1 v' (pre.length + 1) (ptrs pre ++ [ptrE x])) (hgrow : (W.alloc tmp).grownBy w1 v.ownBlock) :
    Boxed w1 w.heap.size 55 v ∧ KeepsOthers W (w1.setCell ⟨w.heap.size, 0, none⟩ v') ∧ Below w.heap.size W (w1.setCell ⟨w.heap.size, 0, none⟩ v') ∧ ApAt w (pre ++ [x]) (w1.setCell ⟨w.heap.size, 0, none⟩ v') := by
  obtain ⟨_, hb⟩ := h
  have hne : ∀ k, k < w.heap.size + 1 → some k ≠ v.ownBlock := fun k hk e => by
    rcases hr.2 with ⟨rfl, _⟩ | ⟨g, cap, cur, rfl, hge, _⟩
    · simp [Value.ownBlock] at e
    · have : k = g := by simpa [Value.ownBlock] using e
      omega
  have hv1 : Boxed w1 w.heap.size 55 v := (hv.alloc tmp).kept hgrow (hne _ (by omega))
  have hB : Below w.heap.size W (w1.setCell ⟨w.heap.size, 0, none⟩ v') := by
    refine (((Below.refl _ W).alloc hb.size tmp).grown hgrow (by simp; have := hb.size; omega) fun j ej => ?_).setCell (p := ⟨w.heap.size, 0, none⟩) (Nat.le_refl _) v'
    rcases Nat.lt_or_ge j w.heap.size with h | h
    · exact absurd ej.symm (hne j (by omega))
    · exact h
  refine ⟨hv1, ?_, hB, ⟨⟨v', hv1.set v', ?_⟩, hb.trans hB⟩⟩
  · refine ((KeepsOthers.alloc W tmp).trans (KeepsOthers.of_grownBy hgrow fun j o ej hj => ?_)).trans (KeepsOthers.setCell _ _ _)
    rcases (hr.alloc tmp).2 with ⟨rfl, _⟩ | ⟨g, cap, cur, rfl, _, hgb, _⟩
    · simp [Value.ownBlock] at ej
    · obtain rfl : g = j := by simpa [Value.ownBlock] using ej
      rw [hgb] at hj; cases hj; rfl
  · rw [ptrs_app, List.length_append, List.length_singleton]
    refine hown'.kept (grownBy_setCell' w1 w.heap.size v') (.inr ?_)
    intro e
    rcases hown'.2 with ⟨rfl, h0⟩ | ⟨g, cap, cur, rfl, hge, _⟩
    · simp [Value.ownBlock] at e
    · have : g = w.heap.size := by simpa [Value.ownBlock] using e
      omega
theorem own_base {w : World} {b b' : Nat} {e : TypeId} {size n : Nat} {v : Value} {xs : List Value} (h : w.ownsRow b e size v n xs) (hb : b' ≤ b) : w.ownsRow b' e size v n xs := by
  refine ⟨h.1, ?_⟩
  rcases h.2 with h2 | ⟨g, cap, cur, hv, hge, r⟩
  · exact Or.inl h2
  · exact Or.inr ⟨g, cap, cur, hv, Nat.le_trans hb hge, r⟩
set_option maxRecDepth 100000 in
set_option maxHeartbeats 1600000 in
theorem appendseq_any (w : World) (Bs : Nat) (A : Option Addr) (c : Nat) (h : List Ent) (hn : h.length ≤ 1024) (hBs : w.cell? ⟨Bs, 0, none⟩ = some (.slice A h.length c))
    (hp : PCells w w.heap.size A h) :
    Calls Try.prog 44 #[.slice none 0 0, .func (.func 40) #[] #[.pointer (some ⟨Bs, 0, none⟩)]] w fun e w' => ∃ v, e = .returned v ∧ Hid (w'.ownsRow w.heap.size 62 1 v h.length (ptrs h)) ∧ Hid (Below w.heap.size w w') := by
  obtain ⟨i0, hi, hz0, hz1, hz2⟩ := info_parts infoE
  refine (callsIn_wide (n := 3)).1 ?_
  refine callsIn_of_wp_marks Try.func44 rfl trivial ?_ rfl
  simp only [Try.ntmps44, List.size_toArray, List.length_cons, List.length_nil, Nat.reduceAdd, Nat.reduceSub, Array.replicate_succ, Array.replicate_zero, List.push_toArray, List.append_toArray, List.nil_append, List.cons_append]
  gi_wp2
  have hBlt : Bs < w.heap.size := block_lt_of_cell hBs
  have hbO := Boxed.new w 55 (.slice none 0 0)
  have hBel : Below w.heap.size w (w.alloc (.cells #[.slice none 0 0] 55)) := (Below.refl _ w).alloc (Nat.le_refl _) _
  have hsz : (w.alloc (.cells #[.slice none 0 0] 55)).heap.size = w.heap.size + 1 := by simp
  generalize w.alloc (.cells #[.slice none 0 0] 55) = w2 at hbO hBel hsz ⊢
  refine range_all (gf := 40) (lb := #[.pointer (some ⟨Bs, 0, none⟩)]) rfl (enters_of Try.func40 (by kernel_rfl) rfl)
    (fun x : Ent => #[ptrE x]) (fun _ => rfl) (fun xs => xs = h) (fun pre x => pre.length < 1024)
    (KpC w.heap.size) (fun h k => h.trans k) (KpC.put w.heap.size)
    (ApAt w) (fun s W l o o' h hl ho hc => h.other (grownBy_putObj' W l o') (by omega) ho hc) (fun s W o h => h.alloc o)
    ⟨⟨_, hbO, World.ownsRow_nil _ _ _ _⟩, hBel⟩
    (fun x => { tmps := #[.slice none 0 0, .func (.func 40) #[] #[.pointer (some ⟨Bs, 0, none⟩)], .pointer (some ⟨w.heap.size, 0, none⟩), undef, .slice none 0 0, ptrE x, .func (.func 40) #[] #[.pointer (some ⟨Bs, 0, none⟩)], ptrE x, undef, undef, undef, undef, undef], defers := [] })
    ?assign ?body ?iter ?done
  case assign =>
    intro l x W K hK
    gi_wp2
    exact hK
  case iter =>
    intro l J W h0 hJI hJK hY hbe
    have hb2 : Below w.heap.size w W := hBel.trans (hbe.mono (by omega))
    exact callsIn_wide.1 (vclos_any l Bs w.heap.size A c h J hn hY W ((hb2.cell (p := ⟨Bs, 0, none⟩) hBlt).trans hBs) (hp.kept (KpC.of_below hb2)) h0)
  case body =>
    rintro l pre x W hI hlp
    obtain ⟨v, hv, hrow⟩ := hI.row
    have hw : w.heap.size + 1 ≤ W.heap.size := hv.lt
    have hc := hv.cell
    have HI := Lib.hid hI
    have HV := Lib.hid hv
    have HR := Lib.hid hrow
    have HW := Lib.hid hw
    have HP := Lib.hid hlp
    clear hI hv hrow hw hlp hp
    unfold ptrE
    gi_wp2_with (gi_at_builtin; refine wpListIn_append_own _ rfl _ _ 55 rfl (w.heap.size + 1) 62 i0 (.pointer none) 1 8 Try.underlying55 hi hz0 hz1 hz2 rfl (by decide) _ _ _ rfl (HR.out.alloc _) ⟨W.heap.size, 0, none⟩ 1 1 [.pointer (some ⟨x.blk, 0, none⟩)] rfl rfl (cell_one_new _ _ _) (by simp [Value.oneCell', ptrE]) (by have := HP.out; unfold maxLen; omega) (by have := HP.out; omega) (by have := HW.out; simp; omega) ?_; intro v' w1 hown' hgrow _; obtain ⟨g', cap', rfl⟩ := ownsRow_succ hown'; obtain ⟨hv1, hk2, hb2, hI2⟩ := HI.out.app HV.out HR.out HW.out hown' hgrow; have hc1 := hv1.cell; have hf1 := hv1.frozen)
    exact ⟨hk2, KpC.of_below hb2, hI2⟩
  case done =>
    rintro D xs W hD rfl hI hK
    obtain ⟨v, hv, hrow⟩ := hI.row
    have hc := hv.cell
    gi_wp2
    refine ⟨by simp, .inl ⟨_, _, rfl, run_takeDeferred hK, ?_⟩⟩
    refine ⟨_, results_tmp rfl _ _ _, v, rfl, ?_, hI.bel.trans (belowK_b (w := w) (Nat.le_refl _) W D _ _ (by omega) hK rfl rfl)⟩
    exact own_base (ownsRow_putObj hrow (.deferred none) hK rfl) (by omega)
end Go.Proofs.Ytiaonfmdjipekaa.Ls
