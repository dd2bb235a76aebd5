/- Walks: a text's signs, or its fault, the program's and the document's; are two rows of numbers the same. Conditions: the signs are no more than 2^44; the decoder's two tables as they are laid. -/
import Derived.Test.YtpgncjfmaeiaaaaDoorUtRChk
import Derived.RegionTactic
set_option linter.unusedVariables false
namespace Go.Proofs.YtpgncjfmaeiaaaaDoor
open Go.RowKit
def intCells (zs : List Int) : List Value := zs.map (Value.int .i64)
theorem intCells_one (zs : List Int) : ∀ u ∈ intCells zs, u.oneCell' = true := by
  intro u hu
  obtain ⟨z, _, rfl⟩ := List.mem_map.1 hu
  rfl
theorem infoInt : (Tryd.prog.info? 3).map (fun i => (i.zero, i.size, i.bytes)) = some (some (.int .i64 0), 1, 8) := by kernel_rfl
theorem ints_own {w : World} {base : Nat} {v : Value} {zs : List Int} (h : w.ownsRow base 3 1 v zs.length (intCells zs)) (hr : ∀ n ∈ zs, -9223372036854775808 ≤ n ∧ n ≤ 9223372036854775807) (hl : zs.length ≤ 17592186044416) : ∃ A c, v = .slice A zs.length c ∧ IntsIn w A c zs := by
  have hrg : ∀ i, i < zs.length → -9223372036854775808 ≤ zs.getD i 0 ∧ zs.getD i 0 ≤ 9223372036854775807 := fun i hi => hr _ (by rw [List.getD_eq_getElem?_getD, List.getElem?_eq_getElem hi]; exact List.getElem_mem hi)
  rcases h.2 with ⟨rfl, h0⟩ | ⟨g, cap, cur, rfl, _, hh, hn, _, hc, ht⟩
  · exact ⟨none, 0, by rw [h0], fun i hi => by omega, hrg, by omega, hl⟩
  · refine ⟨_, cap, rfl, fun i hi => ⟨g, 0, rfl, block_lt hh, ?_⟩, hrg, hn, hl⟩
    rw [Nat.zero_add, block_cell hh]
    have e : cur.toList[i]? = (intCells zs)[i]? := by rw [← ht, List.getElem?_take, if_pos (by omega)]
    rw [← Array.getElem?_toList, e]
    simp [intCells, List.getD_eq_getElem?_getD, hi]
theorem row_ne {w : World} {base g : Nat} {e t : TypeId} {size n : Nat} {v : Value} {xs : List Value} {cs : Array Value} {fr : Nat × Nat} (h : w.ownsRow base e size v n xs) (hb : w.heap[g]? = some (.cells cs t fr)) (hne : e ≠ t) : some g ≠ v.ownBlock := by
  intro he
  rcases h.2 with ⟨rfl, _⟩ | ⟨b, cap, cur, rfl, _, hh, _⟩
  · cases he
  · have : g = b := by simpa [Value.ownBlock] using he
    subst this
    rw [hh] at hb
    injection hb with hb
    injection hb with _ h2 _
    exact hne h2
def okB' (n : Int) : Bool := decide (0 ≤ n)
set_option maxHeartbeats 800000 in
theorem decodeCall_any (g base : Nat) (v : Value) (acc : List Int) (n : Int) (w : World) (hg : w.heap[g]? = some (.cells #[v] 36 (0, 0))) (hown : w.ownsRow base 3 1 v acc.length (intCells acc)) (hb : base ≤ w.heap.size) (hl : acc.length + 1 ≤ 17592186044416) :
    Calls Tryd.prog 51 #[.int .i64 n, .pointer (some ⟨g, 0, none⟩)] w fun e w' => e = .returned (.bool (okB n)) ∧ ∃ v', w'.heap[g]? = some (.cells #[v'] 36 (0, 0)) ∧ w'.ownsRow base 3 1 v' (acc ++ [n]).length (intCells (acc ++ [n])) ∧
      w.heap.size ≤ w'.heap.size ∧ (∀ k, k < w.heap.size → k ≠ g → some k ≠ v.ownBlock → w'.heap[k]? = w.heap[k]?) ∧ w'.os = w.os ∧ w'.tape = w.tape ∧ w'.output = w.output := by
  obtain ⟨i0, hi, hz0, hz1, hz2⟩ := info_parts infoInt
  have hlt := block_lt hg
  have hc := block_cell hg 0
  have HG := Lib.hid hg
  have HOWN := Lib.hid hown
  have HNE := Lib.hid (row_ne hown hg (by decide))
  clear hg hown
  go_enter Tryd.func51, Tryd.ntmps51
  go_wp2_with (at_builtin; refine wpList_append_own _ rfl _ _ 36 rfl base 3 i0 (.int .i64 0) 1 8 Tryd.underlying36 hi hz0 hz1 hz2 rfl (by decide) v acc.length (intCells acc) rfl (own_below HOWN.out ((Below.refl _ _).alloc (Nat.le_refl _) _)) ⟨w.heap.size, 0, none⟩ 1 1 [.int .i64 n] rfl rfl ?c1 ?c2 ?c3 ?c4 ?c5 ?_)
  case c1 =>
    intro j u hj
    rcases j with _ | j
    · simp at hj; subst hj; rw [addr_add]; exact block_cell (heap_alloc_new _ _) 0
    · simp at hj
  case c2 => intro u hu; simp at hu; subst hu; rfl
  case c3 => unfold maxLen; omega
  case c4 => omega
  case c5 => simp; omega
  intro v' w2 hown' hgrow _
  have hb2 : w2.heap[g]? = some (.cells #[v] 36 (0, 0)) := by
    rw [hgrow.block g (by simp; omega) HNE.out]
    exact (Below.heap_alloc w _ g hlt).trans HG.out
  have HB2 := Lib.hid hb2
  have d0 := block_cell hb2 0
  have f0 := block_free hb2 0
  have HO := Lib.hid hown'
  have HGR := Lib.hid hgrow
  obtain ⟨A', c', hv⟩ := own_len hown'
  subst hv
  clear hown' hgrow hb2
  go_wp2
  go_ret
  refine ⟨rfl, _, block_set HB2.out 0 _, ?_, ?_, ?_, ?_, ?_, ?_⟩
  · have ho : w2.ownsRow base 3 1 (.slice A' (acc.length + 1) c') (acc ++ [n]).length (intCells (acc ++ [n])) := by
      have := HO.out
      rw [List.length_append]
      simpa [intCells] using this
    have hne2 := row_ne ho HB2.out (by decide)
    refine ⟨ho.1, ?_⟩
    rcases ho.2 with h | ⟨b, cap, cur, hv, hge, hh, r⟩
    · exact Or.inl h
    · refine Or.inr ⟨b, cap, cur, hv, hge, ?_, r⟩
      rw [Below.heap_setCell _ _ _ _ (by
        intro e
        have e' : b = g := e
        subst e'
        rw [hv] at hne2
        exact hne2 rfl)]
      exact hh
  · have := HGR.out.size
    simp at this
    simp [World.setCell]; omega
  · intro k hk hkg hkr
    rw [Below.heap_setCell _ _ _ _ (by intro e; exact hkg e), HGR.out.block k (by simp; omega) hkr]
    exact Below.heap_alloc w _ k hk
  · exact HGR.out.os
  · exact HGR.out.tape
  · exact HGR.out.output
/-- what decoding gives: the signs, or none -/
def decL (l : List UInt8) : List Int := if (walkL okB l).2 = l.length then (walkL okB l).1 else []
structure DecInv (w : World) (acc : List Int) (V : World) : Prop where
  flt : V.heap[w.heap.size]? = some (.cells #[.int .i64 0, .int .i64 0] 89 (0, 0))
  old : Below w.heap.size w V
  row : ∃ v, V.heap[w.heap.size + 1]? = some (.cells #[v] 36 (0, 0)) ∧ V.ownsRow w.heap.size 3 1 v acc.length (intCells acc)
theorem DecInv.below {w V V' : World} {acc : List Int} (h : DecInv w acc V) (hb : Below V.heap.size V V') : DecInv w acc V' := by
  obtain ⟨v, h1, h2⟩ := h.row
  exact ⟨(hb.block _ (block_lt h.flt)).trans h.flt, h.old.trans (hb.mono h.old.size), v, (hb.block _ (block_lt h1)).trans h1, own_below h2 hb⟩
theorem DecInv.step {w V V' : World} {acc : List Int} {n : Int} {v v' : Value} (h : DecInv w acc V) (hv : V.heap[w.heap.size + 1]? = some (.cells #[v] 36 (0, 0)) ∧ V.ownsRow w.heap.size 3 1 v acc.length (intCells acc))
    (h1 : V'.heap[w.heap.size + 1]? = some (.cells #[v'] 36 (0, 0))) (h2 : V'.ownsRow w.heap.size 3 1 v' (acc ++ [n]).length (intCells (acc ++ [n]))) (hs : V.heap.size ≤ V'.heap.size)
    (hk : ∀ k, k < V.heap.size → k ≠ w.heap.size + 1 → some k ≠ v.ownBlock → V'.heap[k]? = V.heap[k]?) (ho : V'.os = V.os ∧ V'.tape = V.tape ∧ V'.output = V.output) : DecInv w (acc ++ [n]) V' := by
  have hlt := block_lt h.flt
  refine ⟨(hk _ hlt (by omega) (row_ne hv.2 h.flt (by decide))).trans h.flt, ⟨ho.1.trans h.old.os, ho.2.1.trans h.old.tape, ho.2.2.trans h.old.output, Nat.le_trans h.old.size hs, fun i hi => ?_⟩, v', h1, h2⟩
  rw [hk i (by have := h.old.size; omega) (by omega) ?_]
  · exact h.old.block i hi
  · intro e
    have := (hv.2.lt i e.symm).1
    omega
set_option maxHeartbeats 1600000 in
theorem decode_walk (s : ByteArray) (w : World) (hT : Tabs w) (hm : s.size ≤ 9223372036854775807) (hc : (walkL okB s.data.toList).1.length + 1 ≤ 17592186044416) (W : World) (h0 : DecInv w [] W) :
    Calls Tryd.prog 50 #[.string s, .func (.func 51) #[] #[.pointer (some ⟨w.heap.size + 1, 0, none⟩)]] W fun e w' => e = .returned (.int .i64 ((walkL okB s.data.toList).2 : Nat)) ∧ ∃ acc, DecInv w acc w' ∧ ((walkL okB s.data.toList).2 = s.size → acc = (walkL okB s.data.toList).1) := by
  refine walk_decode s okB (w.heap.size + 1) (fun acc V => DecInv w acc V) W w hT hm (fun _ _ h => h.old) (fun _ _ _ h h2 => h.below h2) (fun acc n V h _ hl _ _ => ?_) h0
  obtain ⟨v, hv⟩ := h.row
  refine (decodeCall_any (w.heap.size + 1) w.heap.size v acc n V hv.1 hv.2 h.old.size (by omega)).mono ?_
  rintro e w' ⟨rfl, v', h1, h2, h3, h4, h5, h6, h7⟩
  exact ⟨rfl, h.step hv h1 h2 h3 h4 ⟨h5, h6, h7⟩⟩
def DecPost (l : List UInt8) (w : World) (e : Ending) (w' : World) : Prop :=
  ∃ (A : Option Addr) (c : Nat), e = .returned (.tuple #[.slice A (decL l).length c, faultV l (walkL okB l).2]) ∧ w'.ownsRow w.heap.size 3 1 (.slice A (decL l).length c) (decL l).length (intCells (decL l)) ∧ Below w.heap.size w w'
theorem nil_own (w : World) (b : Nat) : w.ownsRow b 3 1 (.slice none 0 0) ([] : List Int).length (intCells []) := World.ownsRow_nil _ _ _ _
theorem row_setRow {w : World} {base g : Nat} {e t : TypeId} {size n : Nat} {v : Value} {xs : List Value} {cs : Array Value} {fr : Nat × Nat} (h : w.ownsRow base e size v n xs) (hb : w.heap[g]? = some (.cells cs t fr)) (hne : e ≠ t) (ds : Array Value) : (w.setRow g ds).ownsRow base e size v n xs := by
  have hg := row_ne h hb hne
  refine ⟨h.1, ?_⟩
  rcases h.2 with h2 | ⟨b, cap, cur, hv, hge, hh, r⟩
  · exact Or.inl h2
  · refine Or.inr ⟨b, cap, cur, hv, hge, ?_, r⟩
    simp only [World.setRow, Array.getElem?_modify]
    rw [if_neg (by rintro rfl; rw [hv] at hg; exact hg rfl)]
    exact hh
set_option maxHeartbeats 1600000 in
theorem decode_text (s : ByteArray) (w : World) (hT : Tabs w) (hm : s.size ≤ 9223372036854775807) (hc : (walkL okB s.data.toList).1.length + 1 ≤ 17592186044416) :
    Calls Tryd.prog 46 #[.string s] w (DecPost s.data.toList w) := by
  have H0 : Hid (DecInv w [] ((w.alloc (.cells #[.int .i64 0, .int .i64 0] 89)).alloc (.cells #[.slice none 0 0] 36))) :=
    ⟨(Below.heap_alloc _ _ _ (by simp)).trans (heap_alloc_new _ _), ((Below.refl _ _).alloc (Nat.le_refl _) _).alloc (by simp) _, .slice none 0 0, by have := heap_alloc_new (w.alloc (.cells #[.int .i64 0, .int .i64 0] 89)) (.cells #[.slice none 0 0] 36); simpa using this, nil_own _ _⟩
  have WK := Lib.hid (decode_walk s w hT hm hc _ H0.out)
  have HLE : Hid ((walkL okB s.data.toList).2 ≤ s.size) := (walkL_le okB s.data.toList.length s.data.toList (Nat.le_refl _)).1
  have FT : Hid (∀ W, Calls Tryd.prog 52 #[.string s, .int .i64 ((walkL okB s.data.toList).2 : Nat)] W fun e w' => e = .returned (faultV s.data.toList (walkL okB s.data.toList).2) ∧ Below W.heap.size W w') := fun W => fault_any s _ W HLE.out hm
  have hcase : ((walkL okB s.data.toList).2 = s.size ∧ faultV s.data.toList (walkL okB s.data.toList).2 = .agg #[.int .i64 0, .int .i64 0] ∧ decL s.data.toList = (walkL okB s.data.toList).1) ∨
      ((walkL okB s.data.toList).2 < s.size ∧ faultV s.data.toList (walkL okB s.data.toList).2 = .agg #[.int .i64 8, .int .i64 ((walkL okB s.data.toList).2 : Nat)] ∧ decL s.data.toList = []) := by
    have HLN : s.data.toList.length = s.size := rfl
    have := HLE.out
    unfold faultV decL
    rw [HLN]
    by_cases h : (walkL okB s.data.toList).2 < s.size
    · exact Or.inr ⟨h, by rw [if_pos h], by rw [if_neg (by omega)]⟩
    · exact Or.inl ⟨by omega, by rw [if_neg h], by rw [if_pos (by omega)]⟩
  unfold DecPost
  have hmk : ∀ (fn : Fn) (first cap : Array Value) (W : World), (Instr.makeFunc fn first cap).run Tryd.prog W = .ok (.func fn first cap) W := fun _ _ _ _ => rfl
  rcases hcase with ⟨h1, h2, h3⟩ | ⟨h1, h2, h3⟩
  · have HEQ := Lib.hid h1
    rw [h2] at FT ⊢
    rw [h3]
    generalize (walkL okB s.data.toList).2 = at_ at WK FT HEQ
    generalize (walkL okB s.data.toList).1 = zs at WK
    clear h1 h2 h3 hT HLE hc
    go_enter Tryd.func46, Tryd.ntmps46
    go_wp2_with fail
    refine WK.out.mono ?_
    rintro e w1 ⟨rfl, acc, hi, ha⟩
    have hacc := ha HEQ.out
    subst hacc
    have HI := Lib.hid hi
    clear hi ha
    go_wp2_with fail
    refine (FT.out _).mono ?_
    rintro e w2 ⟨rfl, hb2⟩
    have HI2 := Lib.hid (HI.out.below hb2)
    clear hb2
    have HI3 := Lib.hid (HI2.out.below ((Below.refl _ _).alloc (Nat.le_refl _) (.cells #[.int .i64 0, .int .i64 0] 89)))
    obtain ⟨v, hv1, hv2⟩ := HI3.out.row
    have HV1 := Lib.hid hv1
    have HV2 := Lib.hid hv2
    have hcv := block_cell hv1 0
    have q0 := block_cell HI3.out.flt 0
    have q1 := block_cell HI3.out.flt 1
    have r0 := block_free HI3.out.flt 0
    have r1 := block_free HI3.out.flt 1
    have x0 := block_cell (heap_alloc_new w2 (.cells #[.int .i64 0, .int .i64 0] 89)) 0
    have x1 := block_cell (heap_alloc_new w2 (.cells #[.int .i64 0, .int .i64 0] 89)) 1
    obtain ⟨A, c, rfl⟩ := own_len hv2
    clear hv1 hv2
    go_wp2_with (refine wpList_store_row rfl 89 _ _ rfl w.heap.size #[.int .i64 0, .int .i64 0] rfl rfl 89 _ HI3.out.flt (by kernel_rfl) rfl (two_one _ _) ?_)
    have KP : Hid (Kept w (w2.alloc (.cells #[.int .i64 0, .int .i64 0] 89)) 89 #[.int .i64 0, .int .i64 0]) := ⟨HI3.out.flt, HI3.out.old⟩
    have KS := KP.out.set #[.int .i64 0, .int .i64 0]
    have z0 := KS.cell 0
    have z1 := KS.cell 1
    have hro : ((w2.alloc (.cells #[.int .i64 0, .int .i64 0] 89)).setRow w.heap.size #[.int .i64 0, .int .i64 0]).ownsRow w.heap.size 3 1 (.slice A acc.length c) acc.length (intCells acc) := row_setRow HV2.out HI3.out.flt (by decide) _
    exact bodyPost_ret (v := .tuple #[.slice A acc.length c, .agg #[.int .i64 0, .int .i64 0]]) (by simp [results, Tryd.results46, go_sem, z0, z1]) rfl ⟨A, c, rfl, hro, KS.2⟩
  · have HEQ := Lib.hid h1
    rw [h2] at FT ⊢
    rw [h3]
    generalize (walkL okB s.data.toList).2 = at_ at WK FT HEQ
    generalize (walkL okB s.data.toList).1 = zs at WK
    have hat : (at_ : Int) ≤ 9223372036854775807 := by have := HEQ.out; omega
    clear h1 h2 h3 hT HLE hc
    go_enter Tryd.func46, Tryd.ntmps46
    go_wp2_with fail
    refine WK.out.mono ?_
    rintro e w1 ⟨rfl, acc, hi, ha⟩
    have HI := Lib.hid hi
    clear hi ha
    go_wp2_with fail
    refine (FT.out _).mono ?_
    rintro e w2 ⟨rfl, hb2⟩
    have HI2 := Lib.hid (HI.out.below hb2)
    clear hb2
    have HI3 := Lib.hid (HI2.out.below ((Below.refl _ _).alloc (Nat.le_refl _) (.cells #[.int .i64 8, .int .i64 (at_ : Nat)] 89)))
    have q0 := block_cell HI3.out.flt 0
    have q1 := block_cell HI3.out.flt 1
    have r0 := block_free HI3.out.flt 0
    have r1 := block_free HI3.out.flt 1
    have x0 := block_cell (heap_alloc_new w2 (.cells #[.int .i64 8, .int .i64 (at_ : Nat)] 89)) 0
    have x1 := block_cell (heap_alloc_new w2 (.cells #[.int .i64 8, .int .i64 (at_ : Nat)] 89)) 1
    go_wp2_with fail
    generalize hw3 : w2.alloc (Obj.cells #[.int .i64 8, .int .i64 (at_ : Nat)] 89) = w3 at HI3 q0 q1 r0 r1 x0 x1 ⊢
    clear hw3
    go_region
    all_goals
      go_wp2_with fail
      have hbs := block_set (block_set HI3.out.flt 0 (.int .i64 8)) 1 (.int .i64 (at_ : Nat))
      have z0 := block_cell hbs 0
      have z1 := block_cell hbs 1
      refine bodyPost_ret (v := .tuple #[.slice none 0 0, .agg #[.int .i64 8, .int .i64 (at_ : Nat)]]) (by simp [results, Tryd.results46, go_sem, z0, z1]) rfl ⟨none, 0, rfl, nil_own _ _, ?_⟩
      first
        | exact ((HI3.out.old.setCell (p := ⟨w.heap.size, 0, none⟩) (Nat.le_refl _) _).setCell (p := ⟨w.heap.size, 1, none⟩) (Nat.le_refl _) _).drew
        | exact ((HI3.out.old.drew.setCell (p := ⟨w.heap.size, 0, none⟩) (Nat.le_refl _) _).setCell (p := ⟨w.heap.size, 1, none⟩) (Nat.le_refl _) _)
end Go.Proofs.YtpgncjfmaeiaaaaDoor
