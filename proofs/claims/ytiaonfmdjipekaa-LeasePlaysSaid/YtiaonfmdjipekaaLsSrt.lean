/- Walks: slices.SortFunc, SortedFunc at a pile, by 'order'. Conditions: the entries lie apart from the row. -/
import Derived.Test.YtiaonfmdjipekaaLsCmp
set_option linter.unusedVariables false
namespace Go.Proofs.Ytiaonfmdjipekaa.Ls
open Go.RowKit Go.Shelf Go.Lib Go.Sort
theorem turn_sortWorld {α : Type} [Inhabited α] (enc : α → Value) (w : World) (blk off n : Nat) (d : Array α) (os : Array Obj) : Turn (fun k => k = blk) w (sortWorld enc w blk off n d os) := by
  refine ⟨rfl, rfl, rfl, ?_, fun k hk hn => ?_⟩
  · unfold sortWorld
    rw [size_grow]
    simp [putRow, mapBlock, Sort.ahead]
  · unfold sortWorld
    rw [heap_grow_old _ _ (by simp [putRow, mapBlock, Sort.ahead]; exact hk)]
    simp only [putRow, mapBlock, Sort.ahead, Array.getElem?_modify]
    rw [if_neg (fun e => hn e.symm)]
theorem lt_orderZ (a b : Ent) : decide (orderZ a b < 0) = lessE a b := order_less a b
theorem lessE_irrefl (a : Ent) : lessE a a = false := by
  unfold lessE; simp
theorem swoE (h : List Ent) [Inhabited {e : Ent // e ∈ h}] : SWO (ltOf fun x y : {e : Ent // e ∈ h} => orderZ x.1 y.1) where
  irrefl x := by unfold ltOf; rw [lt_orderZ]; exact lessE_irrefl _
  trans x y z h1 h2 := by unfold ltOf at *; rw [lt_orderZ] at *; exact lessE_trans h1 h2
  ntrans x y z h1 h2 := by unfold ltOf at *; rw [lt_orderZ] at *; exact lessE_ntrans h1 h2
theorem ids_inj {h : List Ent} (hn : (h.map Ent.id).Nodup) {a b : Ent} (ha : a ∈ h) (hb : b ∈ h) (e : a.id = b.id) : a = b := by
  induction h with
  | nil => cases ha
  | cons x h ih =>
    rw [List.map_cons, List.nodup_cons] at hn
    rcases List.mem_cons.1 ha with h1 | h1
    · rcases List.mem_cons.1 hb with h2 | h2
      · rw [h1, h2]
      · exact absurd (List.mem_map.2 ⟨b, h2, by rw [← e, h1]⟩) hn.1
    · rcases List.mem_cons.1 hb with h2 | h2
      · exact absurd (List.mem_map.2 ⟨a, h1, by rw [e, h2]⟩) hn.1
      · exact ih hn.2 h1 h2
theorem less_both {a b : Ent} (h1 : lessE a b = false) (h2 : lessE b a = false) : a.id = b.id := by
  unfold lessE at h1 h2
  simp at h1 h2
  by_cases h : a.til = b.til
  · have := h1.2 h
    have := h2.2 h.symm
    omega
  · omega
set_option maxRecDepth 100000 in
theorem sort_any (w : World) (g cap : Nat) (h : List Ent) (hn : 0 < h.length) (hlen : h.length ≤ 1024) (hg : g < w.heap.size) (hrow : ∀ j, j < h.length → w.cell? ⟨g, j, none⟩ = some (ptrE (h.getD j ent0)) ∧ w.frozen? ⟨g, j, none⟩ = false)
    (hent : ∀ e ∈ h, ∃ k, EntAt w e k ∧ e.blk ≠ g) (hnd : (h.map Ent.id).Nodup) (L : List Pr) (hp : (h.map pr).Perm L) (hs : L.Pairwise ltP) :
    Calls Try.prog 39 #[.slice (some ⟨g, 0, none⟩) h.length cap, .func (.func 31) #[] #[]] w fun e w' => e = .returned (.tuple #[]) ∧ ∃ hs : List Ent, Hid (hs.Perm h ∧ hs.map pr = L) ∧ Hid (∀ j, j < h.length → w'.cell? ⟨g, j, none⟩ = some (ptrE (hs.getD j ent0))) ∧ Hid (Turn (fun k => k = g) w w') := by
  obtain ⟨x0, hx0⟩ : ∃ x, x ∈ h := ⟨h.getD 0 ent0, getD_mem' hn⟩
  letI : Inhabited {e : Ent // e ∈ h} := ⟨⟨x0, hx0⟩⟩
  have hd : h.attach.toArray.size = h.length := by simp
  have hget : ∀ j, j < h.length → (h.attach.toArray[j]!).1 = h.getD j ent0 := fun j hj => by
    rw [getElem!_pos _ j (by rw [hd]; exact hj)]
    simp [List.getD_eq_getElem?_getD, hj]
  have hH : Holds (fun x : {e : Ent // e ∈ h} => ptrE x.1) w g 0 h.attach.toArray := fun j hj => by
    rw [hd] at hj
    show w.cell? ⟨g, 0 + j, none⟩ = some (ptrE (h.attach.toArray[j]!).1) ∧ w.frozen? ⟨g, 0 + j, none⟩ = false
    rw [hget j hj, Nat.zero_add]
    exact hrow j hj
  have hcmp : CmpLays1 Try.prog 31 #[] (fun x : {e : Ent // e ∈ h} => ptrE x.1) (fun x y => orderZ x.1 y.1) g 0 h.attach.toArray.size w := fun m os dk _ x y => by
    obtain ⟨kx, ex, nx⟩ := hent x.1 x.2
    obtain ⟨ky, ey, ny⟩ := hent y.1 y.2
    have hT := turn_sortWorld (fun x : {e : Ent // e ∈ h} => ptrE x.1) w g 0 m dk os
    have ax : EntAt (sortWorld (fun x : {e : Ent // e ∈ h} => ptrE x.1) w g 0 m dk os) x.1 kx := (hT.block _ (blt ex) nx).trans ex
    have ay : EntAt (sortWorld (fun x : {e : Ent // e ∈ h} => ptrE x.1) w g 0 m dk os) y.1 ky := (hT.block _ (blt ey) ny).trans ey
    refine (order_gr x.1 y.1 kx ky _ ax ay).mono fun e w' ⟨h1, h2⟩ => ⟨h1, ?_⟩
    exact h2.grow
  have eg : ∀ args w, (callFunc 31 args).run Try.prog w = .ok (.enter 31 args) w := enters_of Try.func31 (by kernel_rfl) rfl
  have hcon := Any.slices_SortFunc_total Try.laysSf6 (fun x : {e : Ent // e ∈ h} => ptrE x.1) (fun _ => rfl) (fun x y => orderZ x.1 y.1) (swoE h) 31 #[] g 0 cap h.attach.toArray w eg hcmp hH hg (by rw [hd]; omega)
    (fun x y h1 h2 => Subtype.ext (ids_inj hnd x.2 y.2 (less_both (by unfold ltOf at h1; rw [lt_orderZ] at h1; exact h1) (by unfold ltOf at h2; rw [lt_orderZ] at h2; exact h2))))
  rw [hd] at hcon
  refine Calls.mono (show Calls Try.prog 39 _ _ _ from hcon) ?_
  rintro e w' ⟨rfl, n, os, rfl⟩
  obtain ⟨M, hM⟩ : ∃ M, M = (h.attach.toArray.toList.mergeSort fun x y => !(ltOf fun x y : {e : Ent // e ∈ h} => orderZ x.1 y.1) y x) := ⟨_, rfl⟩
  rw [← hM]
  have hMp : M.Perm h.attach := by rw [hM]; exact List.mergeSort_perm _ _
  have hMl : M.length = h.length := by rw [hMp.length_eq]; simp
  have hp2 : (M.map Subtype.val).Perm h := by
    have := hMp.map Subtype.val
    rwa [List.attach_map_subtype_val] at this
  refine ⟨rfl, M.map Subtype.val, ⟨hp2, ?_⟩, fun j hj => ?_, turn_sortWorld _ _ _ _ _ _ _⟩
  · refine sorted_unique ((hp2.map pr).trans hp) ?_ hs
    rw [List.pairwise_map, List.pairwise_map]
    have hso : M.Pairwise fun a b => (!(ltOf fun x y : {e : Ent // e ∈ h} => orderZ x.1 y.1) b a) = true := by
      rw [hM]
      refine List.pairwise_mergeSort ?_ ?_ _
      · intro a b c h1 h2
        have h1' : (ltOf fun x y : {e : Ent // e ∈ h} => orderZ x.1 y.1) b a = false := by simpa using h1
        have h2' : (ltOf fun x y : {e : Ent // e ∈ h} => orderZ x.1 y.1) c b = false := by simpa using h2
        simpa using (swoE h).ntrans _ _ _ h2' h1'
      · intro a b
        by_cases hab : (ltOf fun x y : {e : Ent // e ∈ h} => orderZ x.1 y.1) b a = true
        · have : (ltOf fun x y : {e : Ent // e ∈ h} => orderZ x.1 y.1) a b = false := by
            unfold ltOf at hab ⊢
            rw [lt_orderZ] at hab ⊢
            exact lessE_asym hab
          simp [this]
        · have : (ltOf fun x y : {e : Ent // e ∈ h} => orderZ x.1 y.1) b a = false := by simpa using hab
          simp [this]
    have hnM : M.Pairwise fun a b => a.1.id ≠ b.1.id := by
      have : ((M.map Subtype.val).map Ent.id).Nodup := (hp2.map Ent.id).nodup_iff.2 hnd
      rw [List.map_map, List.Nodup, List.pairwise_map] at this
      exact this
    refine (hso.and hnM).imp ?_
    rintro a b ⟨h1, h2⟩
    have h1' : lessE b.1 a.1 = false := by
      have : (ltOf fun x y : {e : Ent // e ∈ h} => orderZ x.1 y.1) b a = false := by simpa using h1
      unfold ltOf at this
      rwa [lt_orderZ] at this
    refine ltP_total (a := pr b.1) (b := pr a.1) (fun e => h2 e.symm) fun e => ?_
    rw [← ltP_less, h1'] at e
    cases e
  · have := (holds_sortWorld (fun x : {e : Ent // e ∈ h} => ptrE x.1) w g 0 n h.attach.toArray M.toArray os hg hH (by rw [hd]; simpa using hMl) j (by simp; omega)).1
    rw [Nat.zero_add] at this
    rw [this, getElem!_pos _ j (by simp; omega)]
    simp [List.getD_eq_getElem?_getD, hMl, hj]
end Go.Proofs.Ytiaonfmdjipekaa.Ls
