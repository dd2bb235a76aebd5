/- Walk: two entries of a pile are changed. Conditions: as XLsPile. -/
import Derived.Test.YtiaonfmdjipekaaLsPile
import Derived.BigRegion
set_option linter.unusedVariables false
namespace Go.Proofs.Ytiaonfmdjipekaa.Ls
open Go.RowKit
/-- outside S nothing turns -/
structure Turn (S : Nat → Prop) (w w' : World) : Prop where
  os : w'.os = w.os
  tape : w'.tape = w.tape
  output : w'.output = w.output
  size : w.heap.size ≤ w'.heap.size
  block : ∀ k, k < w.heap.size → ¬ S k → w'.heap[k]? = w.heap[k]?
theorem Turn.refl (S : Nat → Prop) (w : World) : Turn S w w := ⟨rfl, rfl, rfl, Nat.le_refl _, fun _ _ _ => rfl⟩
theorem Turn.trans {S : Nat → Prop} {a b c : World} (h : Turn S a b) (k : Turn S b c) : Turn S a c :=
  ⟨k.os.trans h.os, k.tape.trans h.tape, k.output.trans h.output, Nat.le_trans h.size k.size, fun i hi hn => (k.block i (Nat.lt_of_lt_of_le hi h.size) hn).trans (h.block i hi hn)⟩
theorem Turn.mono {S S' : Nat → Prop} {a b : World} (h : Turn S a b) (hs : ∀ k, k < a.heap.size → S k → S' k) : Turn S' a b := ⟨h.os, h.tape, h.output, h.size, fun k hk hn => h.block k hk fun e => hn (hs k hk e)⟩
theorem Turn.of_below {S : Nat → Prop} {a b : World} (h : Below a.heap.size a b) : Turn S a b := ⟨h.os, h.tape, h.output, h.size, fun k hk _ => h.block k hk⟩
theorem Turn.below {S : Nat → Prop} {a b : World} {B : Nat} (h : Turn S a b) (hB : B ≤ a.heap.size) (hs : ∀ k, S k → B ≤ k) : Below B a b := ⟨h.os, h.tape, h.output, h.size, fun k hk => h.block k (by omega) fun e => by have := hs k e; omega⟩
theorem Turn.drew {S : Nat → Prop} {a b : World} (h : Turn S a b) (n : Nat) : Turn S a (b.drewN n) := ⟨h.os, h.tape, h.output, h.size, h.block⟩
theorem Turn.set {S : Nat → Prop} {a b : World} (h : Turn S a b) {g : Nat} (hg : S g) (i : Nat) (v : Value) : Turn S a (b.setCell ⟨g, i, none⟩ v) :=
  h.trans ⟨rfl, rfl, rfl, by simp [World.setCell], fun k _ hn => Below.heap_setCell _ _ _ _ fun e => hn (by rw [e]; exact hg)⟩
theorem Turn.alloc {S : Nat → Prop} {a b : World} (h : Turn S a b) (o : Obj) : Turn S a (b.alloc o) :=
  h.trans ⟨rfl, rfl, rfl, by simp, fun k hk _ => Below.heap_alloc _ _ _ hk⟩
/-- the blocks of a pile -/
def PB (A : Option Addr) (h : List Ent) (k : Nat) : Prop := A = some ⟨k, 0, none⟩ ∨ k ∈ h.map Ent.blk
theorem PB.perm {A : Option Addr} {h h' : List Ent} (p : h'.Perm h) (k : Nat) : PB A h' k ↔ PB A h k := by
  unfold PB
  rw [(p.map Ent.blk).mem_iff]
theorem getD_mem {h : List Ent} {i : Nat} (hi : i < h.length) : h.getD i ent0 ∈ h := by
  rw [List.getD_eq_getElem?_getD, List.getElem?_eq_getElem hi]
  exact List.getElem_mem hi
theorem PB.ent {A : Option Addr} {h : List Ent} {i : Nat} (hi : i < h.length) : PB A h (h.getD i ent0).blk := Or.inr (List.mem_map.2 ⟨_, getD_mem hi, rfl⟩)
theorem mem_getD {h : List Ent} {e : Ent} (he : e ∈ h) : ∃ i, i < h.length ∧ h.getD i ent0 = e := by
  obtain ⟨i, hi, rfl⟩ := List.getElem_of_mem he
  exact ⟨i, hi, by simp [List.getD_eq_getElem?_getD, hi]⟩
theorem Pile.from {w : World} {B : Nat → Prop} {A : Option Addr} {c : Nat} {h : List Ent} (p : Pile w B A c h) (k : Nat) (hk : PB A h k) : ¬ B k := by
  rcases hk with rfl | hk
  · exact p.out k rfl
  · obtain ⟨e, he, rfl⟩ := List.mem_map.1 hk
    obtain ⟨i, hi, rfl⟩ := mem_getD he
    exact (p.ents i hi).2
theorem Pile.ne {w : World} {B : Nat → Prop} {A : Option Addr} {c : Nat} {h : List Ent} (p : Pile w B A c h) {i j : Nat} (hi : i < h.length) (hj : j < h.length) (hij : i ≠ j) : (h.getD i ent0).blk ≠ (h.getD j ent0).blk := by
  intro e
  refine hij ((List.getElem?_inj (by simpa using hi) p.apart).1 ?_)
  rw [List.getD_eq_getElem?_getD, List.getD_eq_getElem?_getD, List.getElem?_eq_getElem hi, List.getElem?_eq_getElem hj] at e
  simpa [hi, hj] using e
theorem set_at {w : World} {g : Nat} {cs : Array Value} {t : TypeId} {fr : Nat × Nat} (h : w.heap[g]? = some (.cells cs t fr)) (i : Nat) (v : Value) : (w.setCell ⟨g, i, none⟩ v).heap[g]? = some (.cells (cs.setIfInBounds i v) t fr) := by
  simp [World.setCell, Array.getElem?_modify, h]
theorem set_off {w : World} {g k i : Nat} {v : Value} (hk : k ≠ g) : (w.setCell ⟨g, i, none⟩ v).heap[k]? = w.heap[k]? := Below.heap_setCell _ _ _ _ hk
theorem EntAt.set {w : World} {e : Ent} {k : Int} (h : EntAt w e k) (j : Int) : EntAt (w.setCell ⟨e.blk, 2, none⟩ (.int .i64 j)) e j := by
  unfold EntAt
  rw [set_at h]
  rfl
theorem EntAt.off {w : World} {e : Ent} {k : Int} (h : EntAt w e k) {g i : Nat} {v : Value} (hg : e.blk ≠ g) : EntAt (w.setCell ⟨g, i, none⟩ v) e k := (set_off hg).trans h
theorem EntAt.drew {w : World} {e : Ent} {k : Int} (h : EntAt w e k) (n : Nat) : EntAt (w.drewN n) e k := h
theorem Pile.ne_row {w : World} {B : Nat → Prop} {g : Nat} {A : Option Addr} {c : Nat} {h : List Ent} (p : Pile w B A c h) {cur : Array Value} (hg : w.heap[g]? = some (.cells cur 62 (0, 0))) {i : Nat} (hi : i < h.length) : (h.getD i ent0).blk ≠ g := by
  intro e
  have := (p.ents i hi).1
  unfold EntAt at this
  rw [e, hg] at this
  simp at this
set_option maxRecDepth 100000 in
set_option maxHeartbeats 1600000 in
theorem swap_raw (w : World) (g n c i j a b : Nat) (hi : i < n) (hj : j < n) (hij : i ≠ j) (hga : g ≠ a) (hgb : g ≠ b) (hab : a ≠ b) (va vb : Value)
    (ci : w.cell? ⟨g, i, none⟩ = some (.pointer (some ⟨a, 0, none⟩))) (cj : w.cell? ⟨g, j, none⟩ = some (.pointer (some ⟨b, 0, none⟩)))
    (fi : w.frozen? ⟨g, i, none⟩ = false) (fj : w.frozen? ⟨g, j, none⟩ = false)
    (ka : w.cell? ⟨a, 2, none⟩ = some va) (kb : w.cell? ⟨b, 2, none⟩ = some vb) (oa : va.oneCell' = true) (ob : vb.oneCell' = true)
    (fa : w.frozen? ⟨a, 2, none⟩ = false) (fb : w.frozen? ⟨b, 2, none⟩ = false) :
    Calls Try.prog 83 #[.slice (some ⟨g, 0, none⟩) n c, .int .i64 (i : Nat), .int .i64 (j : Nat)] w fun e w' => e = .returned (.tuple #[]) ∧ ∃ k, w' = ((((w.setCell ⟨g, i, none⟩ (.pointer (some ⟨b, 0, none⟩))).setCell ⟨g, j, none⟩ (.pointer (some ⟨a, 0, none⟩))).setCell ⟨b, 2, none⟩ (.int .i64 (i : Nat))).setCell ⟨a, 2, none⟩ (.int .i64 (j : Nat))).drewN k := by
  have hiI : (i : Int) < (n : Int) := by omega
  have hjI : (j : Int) < (n : Int) := by omega
  have hji : j ≠ i := fun e => hij e.symm
  go_enter Try.func83, Try.ntmps83
  go_wp2_with fail
  go_big_region
  all_goals go_wp2_with fail
  all_goals go_big_region
  all_goals go_wp2_with fail
  all_goals go_end0
  all_goals exact ⟨rfl, 2, rfl⟩
theorem swap_any (w : World) (B : Nat → Prop) (A : Option Addr) (c : Nat) (h : List Ent) (p : Pile w B A c h) (i j : Nat) (hi : i < h.length) (hj : j < h.length) (hij : i ≠ j) :
    Calls Try.prog 83 #[.slice A h.length c, .int .i64 (i : Nat), .int .i64 (j : Nat)] w fun e w' => e = .returned (.tuple #[]) ∧ Pile w' B A c (swapL h i j) ∧ Turn (PB A h) w w' := by
  obtain ⟨g, cur, rfl, hgB, hh, hc, hsz, htk, hcur⟩ := p.block hi
  have ei := (p.ents i hi).1
  have ej := (p.ents j hj).1
  have na := p.ne_row hh hi
  have nb := p.ne_row hh hj
  have nab := p.ne hi hj hij
  refine (swap_raw w g h.length c i j (h.getD i ent0).blk (h.getD j ent0).blk hi hj hij na.symm nb.symm nab _ _ ((bcell hh i).trans (hcur i hi)) ((bcell hh j).trans (hcur j hj)) (bfree hh i) (bfree hh j) (bcell ei 2) (bcell ej 2) rfl rfl (bfree ei 2) (bfree ej 2)).mono ?_
  rintro e w' ⟨rfl, k, rfl⟩
  refine ⟨rfl, ⟨⟨by rw [ptrs_len, swapL_len, Nat.mul_one], Or.inr ⟨g, c, (cur.setIfInBounds i (.pointer (some ⟨(h.getD j ent0).blk, 0, none⟩))).setIfInBounds j (.pointer (some ⟨(h.getD i ent0).blk, 0, none⟩)), by rw [swapL_len], Nat.zero_le _, ?_, by rw [swapL_len]; exact hc, ?_, by simp [hsz], ?_⟩⟩, p.out, ?_, ?_⟩, ?_⟩
  · show ((((w.setCell _ _).setCell _ _).setCell _ _).setCell _ _).heap[g]? = _
    rw [set_off na.symm, set_off nb.symm, set_at (set_at hh i _) j _]
  · rcases p.row.2 with ⟨h1, _⟩ | ⟨_, cap, _, h1, _, _, _, h2, _⟩
    · simp at h1
    · simp at h1
      omega
  · rw [swapL_len, Nat.mul_one, Array.toList_setIfInBounds, Array.toList_setIfInBounds, List.take_set, List.take_set, htk]
    simp [ptrs, swapL, List.map_set]
  · intro m hm
    rw [swapL_len] at hm
    rw [swapL_get h hi hj]
    by_cases h1 : m = j
    · subst h1
      rw [if_pos rfl]
      refine ⟨?_, (p.ents i hi).2⟩
      exact (((((ei.off na).off na).off nab).set _)).drew k
    · rw [if_neg h1]
      by_cases h2 : m = i
      · subst h2
        rw [if_pos rfl]
        refine ⟨?_, (p.ents j hj).2⟩
        exact ((((ej.off nb).off nb).set _).off nab.symm).drew k
      · rw [if_neg h2]
        refine ⟨?_, (p.ents m hm).2⟩
        have nm := p.ne_row hh hm
        exact (((((p.ents m hm).1.off nm).off nm).off (p.ne hm hj h1)).off (p.ne hm hi h2)).drew k
  · exact ((swapL_perm h hi hj).map Ent.blk).nodup_iff.2 p.apart
  · exact (((((Turn.refl _ w).set (Or.inl rfl) _ _).set (Or.inl rfl) _ _).set (PB.ent hj) _ _).set (PB.ent hi) _ _).drew k
end Go.Proofs.Ytiaonfmdjipekaa.Ls
