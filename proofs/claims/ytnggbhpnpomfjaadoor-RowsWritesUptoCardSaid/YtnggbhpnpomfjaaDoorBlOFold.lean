/- Walk: the program's Fold. Conditions: the lines are no more than 10^6, their bytes no more than 10^9. -/
import Derived.Test.YtnggbhpnpomfjaaDoorBlSep
import Derived.Laws.EntriesVeiled
set_option linter.unusedVariables false
namespace Go.Proofs.YtnggbhpnpomfjaaDoor.Bl
open Go.RowKit
theorem bl_infoInt : (Tryd.prog.info? 3).map (fun i => (i.zero, i.size, i.bytes)) = some (some (.int .i64 0), 1, 8) := by kernel_rfl
/-- what Fold holds under way: its lines, its test of a line, the next lines from a place on -/
structure FoldInv (w : World) (A : Option Addr) (c : Nat) (ss : List ByteArray) (nb k : Nat) (V : World) : Prop where
  lin : V.heap[w.heap.size]? = some (.cells #[.slice A ss.length c] 48 (0, 0))
  fn : V.heap[w.heap.size + 1]? = some (.cells #[.func (.func 108) #[] #[]] 42 (0, 0))
  nx : V.heap[nb]? = some (.cells #[.slice (some ⟨w.heap.size + 1 + 1, 0, none⟩) (ss.length + 1) (ss.length + 1)] 22 (0, 0))
  ar : ∃ cur : Array Value, V.heap[w.heap.size + 1 + 1]? = some (.cells cur 3 (0, 0)) ∧ cur.size = ss.length + 1 ∧ ∀ j, k ≤ j → j ≤ ss.length → cur[j]? = some (.int .i64 (nextN (lns ss) j : Nat))
  old : Below w.heap.size w V
  hn : w.heap.size + 1 + 1 < nb
theorem FoldInv.set {w : World} {A : Option Addr} {c : Nat} {ss : List ByteArray} {nb k : Nat} {V : World} (h : FoldInv w A c ss nb (k + 1) V) (hk : k ≤ ss.length) (m : Nat) (hm : k ≤ m) (v : Value) :
    (∃ cur : Array Value, (V.setCell ⟨w.heap.size + 1 + 1, k, none⟩ v).heap[w.heap.size + 1 + 1]? = some (.cells cur 3 (0, 0)) ∧ cur.size = ss.length + 1 ∧ cur[k]? = some v ∧ ∀ j, k + 1 ≤ j → j ≤ ss.length → cur[j]? = some (.int .i64 (nextN (lns ss) j : Nat))) ∧
    (v = .int .i64 (nextN (lns ss) k : Nat) → FoldInv w A c ss nb k (V.setCell ⟨w.heap.size + 1 + 1, k, none⟩ v)) ∧ FoldInv w A c ss nb (k + 1) (V.setCell ⟨w.heap.size + 1 + 1, k, none⟩ v) := by
  obtain ⟨cur, hc, hs, ha⟩ := h.ar
  have h1 := bl_block_set hc k v
  have o1 : ∀ g, g ≠ w.heap.size + 1 + 1 → (V.setCell ⟨w.heap.size + 1 + 1, k, none⟩ v).heap[g]? = V.heap[g]? := fun g hg => Below.heap_setCell _ _ _ _ (fun e => hg e)
  have l1 := (o1 w.heap.size (by omega)).trans h.lin
  have l2 := (o1 (w.heap.size + 1) (by omega)).trans h.fn
  have l3 := (o1 nb (by have := h.hn; omega)).trans h.nx
  have l4 : Below w.heap.size w (V.setCell ⟨w.heap.size + 1 + 1, k, none⟩ v) := h.old.setCell (p := ⟨w.heap.size + 1 + 1, k, none⟩) (by simp; omega) _
  have e1 : (cur.setIfInBounds k v)[k]? = some v := by rw [Array.getElem?_setIfInBounds_self_of_lt (by omega)]
  have e2 : ∀ j, k + 1 ≤ j → j ≤ ss.length → (cur.setIfInBounds k v)[j]? = some (.int .i64 (nextN (lns ss) j : Nat)) := fun j h1 h2 => by
    rw [Array.getElem?_setIfInBounds_ne (by omega)]; exact ha j h1 h2
  refine ⟨⟨_, h1, by simpa using hs, e1, e2⟩, fun hv => ⟨l1, l2, l3, ⟨_, h1, by simpa using hs, fun j h1 h2 => ?_⟩, l4, h.hn⟩, ⟨l1, l2, l3, ⟨_, h1, by simpa using hs, e2⟩, l4, h.hn⟩⟩
  by_cases hj : j = k
  · subst hj; rw [e1, hv]
  · exact e2 j (by omega) h2
theorem FoldInv.drew {w : World} {A : Option Addr} {c : Nat} {ss : List ByteArray} {nb k : Nat} {V : World} (h : FoldInv w A c ss nb k V) : FoldInv w A c ss nb k V.drew :=
  ⟨h.lin, h.fn, h.nx, h.ar, h.old.trans ⟨rfl, rfl, rfl, Nat.le_refl _, fun _ _ => rfl⟩, h.hn⟩
set_option maxRecDepth 100000 in
set_option maxHeartbeats 3200000 in
theorem fold_any (A : Option Addr) (c : Nat) (ss : List ByteArray) (w : World) (g : StrsIn w A c ss) (hl : ss.length ≤ 1000000) (hbk : bulkL (lns ss) ≤ 1000000000) :
    Calls Tryd.prog 84 #[.slice A ss.length c] w fun e w' => e = .returned (.string ⟨(foldL (lns ss)).toArray⟩) ∧ Below w.heap.size w w' := by
  obtain ⟨i0, hi, hz0, hz1, hz2⟩ := info_parts bl_infoInt
  have G := Lib.hid g
  clear g
  obtain ⟨W2, hW2⟩ : ∃ W, W = (w.alloc (.cells #[.slice A ss.length c] 48)).alloc (.cells #[.func (.func 108) #[] #[]] 42) := ⟨_, rfl⟩
  have hsz2 : W2.heap.size = w.heap.size + 2 := by rw [hW2]; simp
  have c1 : W2.heap[w.heap.size + 1]? = some (.cells #[.func (.func 108) #[] #[]] 42 (0, 0)) := by
    have := heap_alloc_new (w.alloc (.cells #[.slice A ss.length c] 48)) (.cells #[.func (.func 108) #[] #[]] 42)
    rw [hW2]; simpa using this
  have c0 : W2.heap[w.heap.size]? = some (.cells #[.slice A ss.length c] 48 (0, 0)) := by
    rw [hW2]
    exact (Below.heap_alloc _ _ _ (by simp)).trans (heap_alloc_new w _)
  have hb2 : Below w.heap.size w W2 := by rw [hW2]; exact ((Below.refl _ _).alloc (Nat.le_refl _) _).alloc (by simp) _
  have b1 : ((w.alloc (.cells #[.slice A ss.length c] 48)).alloc (.cells #[Value.nilFunc] 42)).heap[w.heap.size + 1]? = some (.cells #[Value.nilFunc] 42 (0, 0)) := by
    have := heap_alloc_new (w.alloc (.cells #[.slice A ss.length c] 48)) (.cells #[Value.nilFunc] 42)
    simpa using this
  have x0 := bl_block_cell b1 0
  have x1 := bl_block_free b1 0
  have y0 := bl_block_cell c0 0
  rw [hW2] at y0
  have S2 := Lib.hid hsz2
  have C0 := Lib.hid c0
  have C1 := Lib.hid c1
  have HB2 := Lib.hid hb2
  have E2 := Lib.hid hW2
  clear b1 hW2 hsz2 c1 c0 hb2
  go_enter Tryd.func84, Tryd.ntmps84
  go_wp2_with (at_make; (refine wpList_make_full _ rfl _ _ 22 rfl w.heap.size 3 i0 (.int .i64 0) 1 Tryd.underlying22 hi hz0 hz1 _ _ _ _ (ss.length + 1) rfl rfl (by omega) (by omega) (by rw [hz2]; omega) (by unfold maxLen; omega) (by simp; omega) ?_))
  intro W3 hown hgrow
  rw [← E2.out] at hgrow
  obtain ⟨cur, hcur, hcs⟩ : ∃ cur : Array Value, W3.heap[w.heap.size + 1 + 1]? = some (.cells cur 3 (0, 0)) ∧ cur.size = ss.length + 1 := by
    rcases hown.2 with ⟨h, _⟩ | ⟨g, cap, cur, h, _, hh, _, _, hc, _⟩
    · cases h
    · simp only [Value.slice.injEq, Option.some.injEq, Addr.mk.injEq] at h
      obtain ⟨⟨rfl, _⟩, _, rfl⟩ := h
      exact ⟨cur, hh, by omega⟩
  have hs2 := S2.out
  have d0 : W3.heap[w.heap.size]? = some (.cells #[.slice A ss.length c] 48 (0, 0)) := (hgrow.block _ (by omega) (by simp)).trans C0.out
  have d1 : W3.heap[w.heap.size + 1]? = some (.cells #[.func (.func 108) #[] #[]] 42 (0, 0)) := (hgrow.block _ (by omega) (by simp)).trans C1.out
  have hb3 : Below w.heap.size w W3 := HB2.out.grown hgrow (by omega) (fun g h => by simp at h)
  have hlt := bl_block_lt hcur
  obtain ⟨W4, hW4⟩ : ∃ W, W = W3.alloc (.cells #[.slice (some ⟨w.heap.size + 1 + 1, 0, none⟩) (ss.length + 1) (ss.length + 1)] 22) := ⟨_, rfl⟩
  have I4 : FoldInv w A c ss W3.heap.size (ss.length + 1) W4 := by
    rw [hW4]
    exact ⟨(Below.heap_alloc _ _ _ (by omega)).trans d0, (Below.heap_alloc _ _ _ (by omega)).trans d1, heap_alloc_new _ _, ⟨cur, (Below.heap_alloc _ _ _ hlt).trans hcur, hcs, fun j h1 h2 => by omega⟩, hb3.alloc (by omega) _, hlt⟩
  have I5 := I4.set (Nat.le_refl _) ss.length (Nat.le_refl _) (.int .i64 (ss.length : Nat))
  have I5' := I5.2.1 (by rw [show nextN (lns ss) ss.length = ss.length by have := nextN_end (lns ss); rwa [lns_length] at this])
  obtain ⟨cur4, hc4, hs4, _⟩ := I4.ar
  obtain ⟨v4, hv4⟩ : ∃ v, cur4[ss.length]? = some v := ⟨_, Array.getElem?_eq_getElem (by omega)⟩
  have p0 := bl_block_cell I4.lin 0
  have p1 := bl_block_cell hc4 ss.length
  have p2 := bl_block_free hc4 ss.length
  rw [hv4] at p1
  have p3 := bl_block_cell I5'.lin 0
  have p4 := bl_block_cell I4.nx 0
  rw [hW4] at p0 p1 p2 p3 p4
  have F5 := Lib.hid (hW4 ▸ I5')
  clear I4 I5 I5' hc4 hs4 hv4 hW4 hlt hb3 d0 d1 hs2 hcs hcur hown hgrow x0 x1 y0 S2 C0 C1 HB2 E2
  have hln1 : (ss.length : Int) < (ss.length : Int) + 1 := by omega
  go_wp2_with fail
  clear p0 p1 p2 p3 p4
  generalize W3.heap.size = nb at F5 ⊢
  go_loopw [5] (fun u wr => ∃ k : Nat, k ≤ ss.length ∧ u = .int .i64 ((k : Int) - 1) ∧ Hid (FoldInv w A c ss nb k wr)) (fun u _ => (intOf u + 1).toNat)
  case atStart => exact ⟨ss.length, Nat.le_refl _, rfl, F5.out⟩
  case round =>
    obtain ⟨k, hk, rfl, hf⟩ := hrel
    rcases Nat.eq_zero_or_pos k with h0 | h0
    · subst h0
      have e0 : ((0 : Nat) : Int) - 1 = -1 := by omega
      rw [e0]
      obtain ⟨cur2, hc2, hs2, ha2⟩ := hf.out.ar
      have q0 := bl_block_cell hf.out.lin 0
      have J := Lib.hid (joined_any A c ss #[.pointer (some ⟨nb, 0, none⟩), .pointer (some ⟨w.heap.size + 1, 0, none⟩), .pointer (some ⟨w.heap.size, 0, none⟩)] wr (G.out.below hf.out.old) hl hbk (fun k W hk1 hW => by
        have lt0 := bl_block_lt hf.out.lin
        have lt1 := bl_block_lt hf.out.fn
        have lt2 := bl_block_lt hf.out.nx
        have lt3 := bl_block_lt hc2
        refine foldsep_any A c ss nb (w.heap.size + 1 + 1) (w.heap.size + 1) w.heap.size k W ((G.out.below hf.out.old).below hW) hl hk1 ?_ ?_ ?_ ?_
        · rw [hW.cell (p := ⟨nb, 0, none⟩) lt2]; exact bl_block_cell hf.out.nx 0
        · rw [hW.cell (p := ⟨w.heap.size + 1 + 1, k + 1, none⟩) lt3, bl_block_cell hc2]; exact ha2 _ (Nat.zero_le _) (by omega)
        · rw [hW.cell (p := ⟨w.heap.size + 1, 0, none⟩) lt1]; exact bl_block_cell hf.out.fn 0
        · rw [hW.cell (p := ⟨w.heap.size, 0, none⟩) lt0]; exact bl_block_cell hf.out.lin 0))
      have HB := Lib.hid hf.out.old
      clear hf hc2 hs2 ha2 F5
      go_wp2_with fail
      refine J.out.mono ?_
      rintro e w5 ⟨rfl, hb5⟩
      have HB5 := Lib.hid (HB.out.trans (hb5.mono HB.out.size))
      clear hb5
      go_wp2_with fail
      go_ret
      exact ⟨rfl, HB5.out⟩
    · obtain ⟨j, rfl⟩ : ∃ j, k = j + 1 := ⟨k - 1, by omega⟩
      have e0 : ((j + 1 : Nat) : Int) - 1 = (j : Int) := by omega
      rw [e0]
      have hj1 : (j : Int) < (ss.length : Int) + 1 := by omega
      have hj2 : (j : Int) < (ss.length : Int) := by omega
      have hj3 : (j : Int) + 1 < (ss.length : Int) + 1 := by omega
      have hj0 : (j : Int) ≥ 0 := by omega
      have hjle : (j : Int) ≤ 1000000 := by omega
      obtain ⟨cur2, hc2, hs2, ha2⟩ := hf.out.ar
      obtain ⟨v4, hv4⟩ : ∃ v, cur2[j]? = some v := ⟨_, Array.getElem?_eq_getElem (by omega)⟩
      have p0 := bl_block_cell hf.out.nx 0
      have p1 := bl_block_cell hc2 j
      have p2 := bl_block_free hc2 j
      rw [hv4] at p1
      have S := hf.out.set (by omega) j (Nat.le_refl _) (.int .i64 (j : Nat))
      have SI := S.2.2
      obtain ⟨cur3, hc3, hs3, ha3, hb3⟩ := S.1
      have p3 := bl_block_cell SI.lin 0
      obtain ⟨b, off, hA, hbl, hc⟩ := (G.out.below SI.old).at_ j (by omega)
      have HAT := lns_at ss j (by omega)
      obtain ⟨s, hs⟩ : ∃ s, ss.getD j ByteArray.empty = s := ⟨_, rfl⟩
      rw [hs] at hc HAT
      by_cases hem : s.data.toList = []
      · obtain ⟨e1, e2, e3, e4, e5⟩ := empty_facts hem
        have hnx := nextN_empty (L := lns ss) (k := j) (by rw [lns_length]; omega) (by rw [HAT, hem])
        have p4 := bl_block_cell SI.nx 0
        have p5 := bl_block_cell hc3 j
        have p6 := bl_block_free hc3 j
        have p7 := bl_block_cell hc3 (j + 1)
        rw [hb3 (j + 1) (Nat.le_refl _) (by omega)] at p7
        rw [ha3] at p5
        have SS := SI.set (by omega) j (Nat.le_refl _) (.int .i64 (nextN (lns ss) (j + 1) : Nat))
        have HI := Lib.hid (SS.2.1 (by rw [hnx]))
        generalize nextN (lns ss) (j + 1) = m at p7 HI
        clear hf F5 hc2 hs2 ha2 hv4 S SI hc3 hs3 ha3 hb3 HAT hs hem hnx SS
        subst hA
        go_wp2_with fail
        go_region
        go_wp2_with fail
        go_roundw
        case rel => exact ⟨j, by omega, by go_num, HI.out.drew⟩
        case measure => simp [intOf]
      · obtain ⟨e1, e2, e3, e4, e5⟩ := nonempty_facts hem
        have hnx := nextN_stop (L := lns ss) (k := j) (by rw [lns_length]; omega) (by rw [HAT]; exact hem)
        have HI := Lib.hid (S.2.1 (by rw [hnx]))
        clear hf F5 hc2 hs2 ha2 hv4 S SI hc3 hs3 ha3 hb3 HAT hs hem hnx
        subst hA
        go_wp2_with fail
        go_roundw
        case rel => exact ⟨j, by omega, by go_num, HI.out⟩
        case measure => simp [intOf]
end Go.Proofs.YtnggbhpnpomfjaaDoor.Bl
