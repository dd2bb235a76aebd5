/- Walk: the program's Take: a block's text, or its fault. Conditions: the rows are no more than 10000, their bytes no more than 10^8. -/
import Derived.Test.YtnggbhpnpomfjaaDoorBlTake
import Derived.Laws.Tables
set_option linter.unusedVariables false
namespace Go.Proofs.YtnggbhpnpomfjaaDoor.Bl
open Go.RowKit
theorem bl_setRow_below (w : World) {B g : Nat} (h : B ≤ g) (cs : Array Value) : Below B w (w.setRow g cs) :=
  ⟨rfl, rfl, rfl, by simp [World.setRow], fun k hk => by simp only [World.setRow, Array.getElem?_modify]; rw [if_neg (by omega)]⟩
def Kept (w w2 : World) (t : TypeId) (cs : Array Value) : Prop := w2.heap[w.heap.size]? = some (.cells cs t (0, 0)) ∧ Below w.heap.size w w2
theorem Kept.first (w : World) (t : TypeId) (cs : Array Value) : Kept w (w.alloc (.cells cs t)) t cs := ⟨heap_alloc_new _ _, (Below.refl _ _).alloc (Nat.le_refl _) _⟩
theorem Kept.below {w w2 w3 : World} {t : TypeId} {cs : Array Value} (h : Kept w w2 t cs) (hb : Below w2.heap.size w2 w3) : Kept w w3 t cs := ⟨(hb.block _ (bl_block_lt h.1)).trans h.1, h.2.trans (hb.mono h.2.size)⟩
theorem Kept.set {w w2 : World} {t : TypeId} {cs : Array Value} (h : Kept w w2 t cs) (ds : Array Value) : Kept w (w2.setRow w.heap.size ds) t ds := ⟨setRow_heap _ _ _ _ _ _ h.1, h.2.trans (bl_setRow_below w2 (Nat.le_refl _) ds)⟩
theorem Kept.cell {w w2 : World} {t : TypeId} {cs : Array Value} (h : Kept w w2 t cs) (i : Nat) : w2.cell? ⟨w.heap.size, i, none⟩ = cs[i]? := bl_block_cell h.1 i
theorem row_one (a : Int) (s : ByteArray) (b : Int) : (#[Value.int .i64 a, Value.string s, Value.int .i64 b]).all (·.oneCell') = true := by simp [Value.oneCell']
theorem two_one (a b : Int) : (#[Value.int .i64 a, Value.int .i64 b]).all (·.oneCell') = true := by simp [Value.oneCell']
theorem bl_infoStr : (Tryd.prog.info? 9).map (fun i => (i.zero, i.size, i.bytes)) = some (some (.string ⟨#[]⟩), 1, 16) := by kernel_rfl
theorem rows_to (A : Option Addr) (len cap h : Nat) (hh : h ≤ cap) (w : World) :
    (Instr.sliceAt 44 (.slice A len cap) none (some (.int .i64 (h : Int))) none).run Tryd.prog w = .ok (.slice A h cap) w := by
  have ht : Tryd.prog.underlying 44 = some (.slice (Tryd.prog.elem 44)) := by kernel_rfl
  have hs : (sizeOf (Tryd.prog.elem 44)).run Tryd.prog w = .ok 3 w := by kernel_rfl
  rw [run_sliceAt_slice w _ _ _ _ _ ht, run_slice_h w _ A len cap ht .i64 (h : Int) (by omega) (by omega), hs]
  simp [sliced, Result.andThen]
  cases A <;> simp [Addr.add]
theorem strs_to (A : Option Addr) (len cap h : Nat) (hh : h ≤ cap) (w : World) :
    (Instr.sliceAt 48 (.slice A len cap) none (some (.int .i64 (h : Int))) none).run Tryd.prog w = .ok (.slice A h cap) w := by
  have ht : Tryd.prog.underlying 48 = some (.slice (Tryd.prog.elem 48)) := by kernel_rfl
  have hs : (sizeOf (Tryd.prog.elem 48)).run Tryd.prog w = .ok 1 w := by kernel_rfl
  rw [run_sliceAt_slice w _ _ _ _ _ ht, run_slice_h w _ A len cap ht .i64 (h : Int) (by omega) (by omega), hs]
  simp [sliced, Result.andThen]
  cases A <;> simp [Addr.add]
theorem rep_one (b : UInt8) : ∀ n, Lib.repeatL [b] n = List.replicate n b
  | 0 => rfl
  | n + 1 => by simp [Lib.repeatL, rep_one b n, List.replicate_succ]
theorem bl_cell_other (V : World) (p q : Addr) (v : Value) (h : q.block ≠ p.block) : (V.setCell p v).cell? q = V.cell? q := by
  unfold World.cell?
  rw [Below.heap_setCell _ _ _ _ h]
/-- what Take holds under way -/
theorem rep_blank (d : Nat) (hd : d ≤ 65536) (w : World) : Calls Tryd.prog 81 #[.string ⟨#[32]⟩, .int .i64 (d : Nat)] w fun e w' => e = .returned (.string ⟨(List.replicate d 32).toArray⟩) ∧ Below w.heap.size w w' := by
  have h := Tryd.strings_Repeat ⟨#[32]⟩ d w (by omega) (by show 1 * d ≤ _; omega)
  rw [show ((⟨#[32]⟩ : ByteArray).data.toList) = [32] from rfl, rep_one] at h
  exact h
theorem rep_line (d : Nat) (hd : d ≤ 1000000) (w : World) : Calls Tryd.prog 81 #[.string ⟨#[10]⟩, .int .i64 (d : Nat)] w fun e w' => e = .returned (.string ⟨(List.replicate d 10).toArray⟩) ∧ Below w.heap.size w w' := by
  have h := Tryd.strings_Repeat ⟨#[10]⟩ d w (by omega) (by show 1 * d ≤ _; omega)
  rw [show ((⟨#[10]⟩ : ByteArray).data.toList) = [10] from rfl, rep_one] at h
  exact h
structure TakeInv (w : World) (rs : List Rw) (folded : Bool) (chomp : Int) (lb n k : Nat) (V : World) : Prop where
  st : V.heap[w.heap.size + 1]? = some (.cells #[.bool folded, .int .i64 chomp] 61 (0, 0))
  ft : V.heap[w.heap.size + 1 + 1]? = some (.cells #[.int .i64 0, .int .i64 0] 33 (0, 0))
  ar : ∃ cur : Array Value, V.heap[lb]? = some (.cells cur 9 (0, 0)) ∧ cur.size = n ∧ (∀ j, j < k → j < n → cur[j]? = some (.string ⟨(lineT rs j).toArray⟩)) ∧ (∀ j, k ≤ j → j < n → cur[j]? = some (.string ⟨#[]⟩))
  old : Below w.heap.size w V
  hlb : w.heap.size + 1 + 1 < lb
theorem TakeInv.below {w : World} {rs : List Rw} {folded : Bool} {chomp : Int} {lb n k : Nat} {V V' : World} (h : TakeInv w rs folded chomp lb n k V) (hb : Below V.heap.size V V') : TakeInv w rs folded chomp lb n k V' := by
  obtain ⟨cur, h1, h2, h3, h4⟩ := h.ar
  exact ⟨(hb.block _ (bl_block_lt h.st)).trans h.st, (hb.block _ (bl_block_lt h.ft)).trans h.ft, ⟨cur, (hb.block _ (bl_block_lt h1)).trans h1, h2, h3, h4⟩, h.old.trans (hb.mono h.old.size), h.hlb⟩
theorem TakeInv.skip {w : World} {rs : List Rw} {folded : Bool} {chomp : Int} {lb n k : Nat} {V : World} (h : TakeInv w rs folded chomp lb n k V) (he : lineT rs k = []) : TakeInv w rs folded chomp lb n (k + 1) V := by
  obtain ⟨cur, h1, h2, h3, h4⟩ := h.ar
  refine ⟨h.st, h.ft, ⟨cur, h1, h2, fun j hj hn => ?_, fun j hj hn => h4 j (by omega) hn⟩, h.old, h.hlb⟩
  by_cases e : j = k
  · subst e; rw [h4 j (Nat.le_refl _) hn, he]
  · exact h3 j (by omega) hn
theorem TakeInv.set {w : World} {rs : List Rw} {folded : Bool} {chomp : Int} {lb n k : Nat} {V : World} (h : TakeInv w rs folded chomp lb n k V) (hk : k < n) {s : ByteArray} (hs : s = ⟨(lineT rs k).toArray⟩) : TakeInv w rs folded chomp lb n (k + 1) (V.setCell ⟨lb, k, none⟩ (.string s)) := by
  obtain ⟨cur, h1, h2, h3, h4⟩ := h.ar
  have hb := h.hlb
  have o1 : ∀ g, g ≠ lb → (V.setCell ⟨lb, k, none⟩ (.string s)).heap[g]? = V.heap[g]? := fun g hg => Below.heap_setCell _ _ _ _ (fun e => hg e)
  refine ⟨(o1 _ (by omega)).trans h.st, (o1 _ (by omega)).trans h.ft, ⟨_, bl_block_set h1 k _, by simpa using h2, fun j hj hn => ?_, fun j hj hn => ?_⟩, h.old.setCell (p := ⟨lb, k, none⟩) (by simp; omega) _, hb⟩
  · by_cases e : j = k
    · subst e; rw [Array.getElem?_setIfInBounds_self_of_lt (by omega), hs]
    · rw [Array.getElem?_setIfInBounds_ne (by omega)]; exact h3 j (by omega) hn
  · rw [Array.getElem?_setIfInBounds_ne (by omega)]; exact h4 j (by omega) hn
theorem bl_map : ∀ L : List (List UInt8), (L.map fun l => (⟨l.toArray⟩ : ByteArray)).map (fun s => s.data.toList) = L
  | [] => rfl
  | x :: L => by rw [List.map_cons, List.map_cons, bl_map L]
theorem bl_size (s : ByteArray) : s.data.toList.length = s.size := rfl
theorem bl_str_eq {a b : ByteArray} (h : a.data.toList = b.data.toList) : Value.string a = Value.string b := by
  have : a = b := by
    cases a; cases b
    congr 1
    exact Array.toList_inj.1 h
  rw [this]
theorem joinT_le (L : List (List UInt8)) : (joinT L).length ≤ bulkL L + L.length := by
  cases L with
  | nil => simp [joinT, Lib.join_nil]
  | cons x r =>
    unfold joinT
    rw [Lib.join_length]
    have e : ∀ (xs : List (List UInt8)), Lib.lens xs = bulkL xs := fun xs => by
      unfold bulkL
      induction xs with
      | nil => rfl
      | cons y ys ih => simp only [List.map_cons, List.sum_cons, ← ih]; rfl
    rw [e]
    simp
    omega
theorem foldL_le (L : List (List UInt8)) : (foldL L).length ≤ bulkL L + L.length := by
  have h := foldTo_le L L.length (Nat.le_refl _)
  rw [List.take_length] at h
  exact h
set_option maxRecDepth 100000 in
set_option maxHeartbeats 3200000 in
theorem take_any (A : Option Addr) (c : Nat) (rs : List Rw) (col : Int) (folded : Bool) (chomp : Int) (w : World) (g : RowsIn w A c rs) (hl : rs.length ≤ 10000) (hbk : bulkT rs ≤ 100000000) :
    Calls Tryd.prog 55 #[.slice A rs.length c, .int .i64 col, .agg #[.bool folded, .int .i64 chomp]] w fun e w' => e = .returned (takeV rs col folded chomp) ∧ Below w.heap.size w w' := by
  obtain ⟨i0, hi, hz0, hz1, hz2⟩ := info_parts bl_infoStr
  obtain ⟨W1, hW1⟩ : ∃ W, W = ((w.alloc (.cells #[.int .i64 col] 3)).alloc (.cells #[.bool folded, .int .i64 chomp] 61)).alloc (.cells #[.int .i64 0, .int .i64 0] 33) := ⟨_, rfl⟩
  have hs1 : W1.heap.size = w.heap.size + 3 := by rw [hW1]; simp
  have b0 : W1.heap[w.heap.size]? = some (.cells #[.int .i64 col] 3 (0, 0)) := by
    rw [hW1]; exact (Below.heap_alloc _ _ _ (by simp; omega)).trans ((Below.heap_alloc _ _ _ (by simp)).trans (heap_alloc_new w _))
  have b1 : W1.heap[w.heap.size + 1]? = some (.cells #[.bool folded, .int .i64 chomp] 61 (0, 0)) := by
    rw [hW1]
    refine (Below.heap_alloc _ _ _ (by simp)).trans ?_
    have := heap_alloc_new (w.alloc (.cells #[.int .i64 col] 3)) (.cells #[.bool folded, .int .i64 chomp] 61)
    simpa using this
  have b2 : W1.heap[w.heap.size + 1 + 1]? = some (.cells #[.int .i64 0, .int .i64 0] 33 (0, 0)) := by
    rw [hW1]
    have := heap_alloc_new ((w.alloc (.cells #[.int .i64 col] 3)).alloc (.cells #[.bool folded, .int .i64 chomp] 61)) (.cells #[.int .i64 0, .int .i64 0] 33)
    simpa using this
  have hb1 : Below w.heap.size w W1 := by rw [hW1]; exact (((Below.refl _ _).alloc (Nat.le_refl _) _).alloc (by simp) _).alloc (by simp; omega) _
  have IX := index_any A c rs col w.heap.size W1 (g.below hb1) (by omega) (bl_block_cell b0 0) (by omega)
  rw [hW1] at IX
  have hcl := cntT_le rs col
  have G := Lib.hid g
  have S1 := Lib.hid hs1
  have B1 := Lib.hid b1
  have B2 := Lib.hid b2
  have HB1 := Lib.hid hb1
  have E1 := Lib.hid hW1
  obtain ⟨n, hn⟩ : ∃ n, cntT rs col = n := ⟨_, rfl⟩
  have HN := Lib.hid hn
  rw [hn] at hcl
  have hcase : (n < rs.length ∧ indexT rs col = (n : Nat)) ∨ (rs.length = n ∧ indexT rs col = -1) := by
    unfold indexT; rw [hn]
    by_cases h : n < rs.length
    · exact Or.inl ⟨h, by rw [if_pos h]⟩
    · exact Or.inr ⟨by omega, by rw [if_neg h]⟩
  have hsl : ∀ len W, (Instr.sliceAt 44 (.slice A len c) none (some (.int .i64 (n : Int))) none).run Tryd.prog W = .ok (.slice A n c) W := fun len W => rows_to A len c n (by have := g.cap; omega) W
  have HSL := Lib.hid hsl
  clear g hs1 b0 b1 b2 hb1 hW1 hn hsl
  rcases hcase with ⟨hlen, hix⟩ | ⟨hlen, hix⟩
  all_goals
    rw [hix] at IX
    have IXH := Lib.hid IX
    have HLEN := Lib.hid hlen
    clear IX hix hlen
    go_enter Tryd.func55, Tryd.ntmps55
    go_wp2_with fail
    refine IXH.out.mono ?_
    rintro e W2 ⟨rfl, hb2⟩
    have hb2' : Below W1.heap.size W1 W2 := by rw [E1.out]; exact hb2
    have HB2 := Lib.hid hb2'
    have HW2 : w.heap.size ≤ W2.heap.size := by have := hb2'.size; have := S1.out; omega
    clear hb2 hb2' IXH
    have hlen := HLEN.out
    clear HLEN
    go_wp2_with (at_make; (refine wpList_make_full _ rfl _ _ 48 rfl w.heap.size 9 i0 (.string ⟨#[]⟩) 1 Tryd.underlying48 hi hz0 hz1 _ _ _ _ n rfl rfl (by omega) (by omega) (by rw [hz2]; omega) (by unfold maxLen; omega) HW2 ?_))
  all_goals
    intro W3 hown hgrow
    have I0 : Hid (TakeInv w rs folded chomp W2.heap.size n 0 W3) := by
      obtain ⟨cur, hcur, hcs, hce⟩ : ∃ cur : Array Value, W3.heap[W2.heap.size]? = some (.cells cur 9 (0, 0)) ∧ cur.size = n ∧ ∀ j, j < n → cur[j]? = some (.string ⟨#[]⟩) := by
        rcases hown.2 with ⟨h, _⟩ | ⟨g, cap, cur, h, _, hh, _, _, hc, ht⟩
        · cases h
        · simp only [Value.slice.injEq, Option.some.injEq, Addr.mk.injEq] at h
          obtain ⟨⟨rfl, _⟩, _, rfl⟩ := h
          refine ⟨cur, hh, by omega, fun j hj => ?_⟩
          have e : cur.toList[j]? = (madeCells #[Value.string ⟨#[]⟩] n).toList[j]? := by rw [← ht, List.getElem?_take, if_pos (by omega)]
          rw [← Array.getElem?_toList, e, toList_madeCells_one, List.getElem?_replicate, if_pos hj]
      have hs := S1.out
      have hsz := HB2.out.size
      have hb12 : Below w.heap.size w W2 := HB1.out.trans (HB2.out.mono HB1.out.size)
      exact ⟨(hgrow.block _ (by omega) (by simp)).trans ((HB2.out.block _ (by omega)).trans B1.out), (hgrow.block _ (by omega) (by simp)).trans ((HB2.out.block _ (by omega)).trans B2.out), ⟨cur, hcur, hcs, fun j h => by omega, fun j _ h => hce j h⟩, hb12.grown hgrow HW2 (fun g h => by simp at h), by omega⟩
    clear hown hgrow
    generalize W2.heap.size = lb at I0 ⊢
    have hsl := HSL.out
    go_wp2_with fail
    clear hsl
    go_loopw [10, 11, 30] (fun u10 u11 u30 wr => ∃ k : Nat, k ≤ n ∧ u10 = .int .i64 (baseT rs k) ∧ u11 = .int .i64 (endT rs k : Nat) ∧ u30 = .int .i64 (k : Nat) ∧ Hid (∀ j, j < k → badT rs j = false) ∧ Hid (TakeInv w rs folded chomp lb n k wr)) (fun _ _ u30 _ => n - (intOf u30).toNat)
    case atStart => exact ⟨0, Nat.zero_le _, rfl, rfl, rfl, (fun j h => by omega), I0.out⟩
    case round =>
      obtain ⟨k, hk, rfl, rfl, rfl, hnb, hf⟩ := hrel
      clear I0
      by_cases hlt : k < n
      · have hlt' : (k : Int) < (n : Int) := by omega
        obtain ⟨b, off, hA, hbl, c0, c1, c2⟩ := (G.out.below hf.out.old).at_ k (by omega)
        have hrg := G.out.rng k (by omega)
        have hzr := bulkT_one rs k (by omega)
        have hNB : Hid (badT rs k = false → ∀ j, j < k + 1 → badT rs j = false) := fun h j hj => by
          rcases Nat.lt_or_ge j k with h1 | h1
          · exact hnb.out j h1
          · have : j = k := by omega
            subst this; exact h
        have HBAD : Hid (badT rs k = true → takeV rs col folded chomp = .tuple #[.string ⟨#[]⟩, .int .i64 0, .agg #[.int .i64 9, .int .i64 (rs.getD k rw0).ln]]) := fun h => by
          unfold takeV
          rw [HN.out, badAt_some hlt h hnb.out]
        have hbg := baseT_ge rs k
        have HBase : Hid (baseT rs (k + 1) = if (rs.getD k rw0).em = true then baseT rs k else if baseT rs k < 0 then (rs.getD k rw0).at_ else baseT rs k) := rfl
        have HEnd : Hid (endT rs (k + 1) = if (rs.getD k rw0).em = true then endT rs k else k + 1) := rfl
        have HBd : Hid (badT rs k = (!(rs.getD k rw0).em && (decide ((rs.getD k rw0).at_ < baseT rs (k + 1)) || decide (65536 < (rs.getD k rw0).at_ - baseT rs (k + 1))))) := rfl
        have HLine : Hid (lineT rs k = if (rs.getD k rw0).em = true then [] else List.replicate ((rs.getD k rw0).at_ - baseT rs (k + 1)).toNat 32 ++ (rs.getD k rw0).txt.data.toList) := rfl
        generalize rs.getD k rw0 = r at c0 c1 c2 hrg hzr HBAD HBase HEnd HBd HLine
        generalize baseT rs k = bs at hbg HBase ⊢
        generalize endT rs k = es at HEnd ⊢
        obtain ⟨g1, g2, g3, g4⟩ := hrg
        have HK0 := Lib.hid (Kept.first wr 53 #[.int .i64 0, .string ⟨#[]⟩, .int .i64 0])
        have HK := Lib.hid (HK0.out.set #[.int .i64 r.col, .string r.txt, .int .i64 r.ln])
        have HF := Lib.hid (hf.out.below HK.out.2)
        have q0 := HK.out.cell 0
        have q1 := HK.out.cell 1
        have q2 := HK.out.cell 2
        have hlp : lb < wr.heap.size := by obtain ⟨cur, h1, _⟩ := hf.out.ar; exact bl_block_lt h1
        clear hf hnb
        subst hA
        cases he : r.em with
        | true =>
          obtain ⟨e1, e2, e3, e4, e5⟩ := empty_facts (Rw.em_true he)
          have hb' : Hid (baseT rs (k + 1) = bs) := by show _ = _; rw [HBase.out, he]; rfl
          have he' : Hid (endT rs (k + 1) = es) := by show _ = _; rw [HEnd.out, he]; rfl
          have hn' : Hid (badT rs k = false) := by show _ = _; rw [HBd.out, he]; rfl
          have HF' := Lib.hid (HF.out.skip (by rw [HLine.out, he]; rfl))
          clear he HBase HEnd HBd HLine
          go_wp2_with (refine wpList_store_row rfl 53 _ _ rfl wr.heap.size #[.int .i64 r.col, .string r.txt, .int .i64 r.ln] rfl rfl 53 _ HK0.out.1 (by kernel_rfl) rfl (row_one _ _ _) ?_)
          go_roundw
          case rel => exact ⟨k + 1, by omega, by rw [hb'.out], by rw [he'.out], by go_num, hNB.out hn'.out, HF'.out⟩
          case measure => simp [intOf]; omega
        | false =>
          obtain ⟨e1, e2, e3, e4, e5⟩ := nonempty_facts (Rw.em_false he)
          have HBase : Hid (baseT rs (k + 1) = if bs < 0 then r.at_ else bs) := by show _ = _; rw [HBase.out, he]; rfl
          have he' : Hid (endT rs (k + 1) = k + 1) := by show _ = _; rw [HEnd.out, he]; rfl
          have HBd : Hid (badT rs k = (decide (r.at_ < baseT rs (k + 1)) || decide (65536 < r.at_ - baseT rs (k + 1)))) := by show _ = _; rw [HBd.out, he]; rfl
          have HLine : Hid (lineT rs k = List.replicate (r.at_ - baseT rs (k + 1)).toNat 32 ++ r.txt.data.toList) := by show _ = _; rw [HLine.out, he]; rfl
          obtain ⟨a, ha⟩ : ∃ a, r.at_ = a := ⟨_, rfl⟩
          have ha0 : 0 ≤ a := by rw [← ha]; exact r.at_pos
          have ha1 : a ≤ 9223372036854775807 := by rw [← ha]; unfold Rw.at_; omega
          have hmx : max r.col 0 = a := ha
          rw [ha] at HBase HBd HLine
          clear he HEnd ha
          by_cases hb0 : bs < 0
          · have hbn : Hid (baseT rs (k + 1) = a) := by show _ = _; rw [HBase.out, if_pos hb0]
            have hd0 : a - a = 0 := by omega
            clear HBAD
            have hn' : Hid (badT rs k = false) := by show _ = _; rw [HBd.out, hbn.out]; first | (simp; done) | (simp; omega)
            have hwd : IntKind.i64.wrap 0 = 0 := by rfl
            have HLn : Hid (lineT rs k = List.replicate 0 32 ++ r.txt.data.toList) := by show _ = _; rw [HLine.out, hbn.out]; simp
            obtain ⟨sp, hsp⟩ : ∃ s : ByteArray, s = ⟨(List.replicate 0 32).toArray⟩ := ⟨_, rfl⟩
            have hspz : sp.size ≤ 65536 := by rw [hsp]; simp [ByteArray.size]
            have hadd : ¬ (9223372036854775807 < sp.size + r.txt.size) := by omega
            have hspd : sp.data.toList = List.replicate 0 32 := by rw [hsp]
            have RP : Hid (Calls Tryd.prog 81 #[.string ⟨#[32]⟩, .int .i64 0] (((wr.alloc (.cells #[.int .i64 0, .string ⟨#[]⟩, .int .i64 0] 53)).setRow wr.heap.size #[.int .i64 r.col, .string r.txt, .int .i64 r.ln]).drew) fun e w' => e = .returned (.string sp) ∧ w'.cell? ⟨wr.heap.size, 1, none⟩ = some (.string r.txt) ∧ w'.cell? ⟨lb, k, none⟩ = some (.string ⟨#[]⟩) ∧ w'.frozen? ⟨lb, k, none⟩ = false ∧ Hid (TakeInv w rs folded chomp lb n k w')) := by
              have h := rep_blank 0 (by omega) (((wr.alloc (.cells #[.int .i64 0, .string ⟨#[]⟩, .int .i64 0] 53)).setRow wr.heap.size #[.int .i64 r.col, .string r.txt, .int .i64 r.ln]).drew)
              rw [show ((0 : Nat) : Int) = 0 by omega, ← hsp] at h
              refine h.mono fun e w' ⟨he, hb⟩ => ?_
              have hb' : Below wr.heap.size wr w' := HK.out.2.drew.trans (hb.mono HK.out.2.drew.size)
              have hf' : TakeInv w rs folded chomp lb n k w' := (HF.out.below ⟨rfl, rfl, rfl, Nat.le_refl _, fun _ _ => rfl⟩ : TakeInv w rs folded chomp lb n k (((wr.alloc (.cells #[.int .i64 0, .string ⟨#[]⟩, .int .i64 0] 53)).setRow wr.heap.size #[.int .i64 r.col, .string r.txt, .int .i64 r.ln]).drew)).below hb
              obtain ⟨cur, h1, h2, h3, h4⟩ := hf'.ar
              refine ⟨he, ?_, by rw [bl_block_cell h1]; exact h4 k (Nat.le_refl _) hlt, bl_block_free h1 k, hf'⟩
              exact (hb.cell (p := ⟨wr.heap.size, 1, none⟩) (bl_block_lt HK.out.1)).trans q1
            clear hsp HBase HBd HLine
            go_wp2_with (refine wpList_store_row rfl 53 _ _ rfl wr.heap.size #[.int .i64 r.col, .string r.txt, .int .i64 r.ln] rfl rfl 53 _ HK0.out.1 (by kernel_rfl) rfl (row_one _ _ _) ?_)
            go_region_held3 (fun w' => w'.cell? ⟨wr.heap.size, 1, none⟩ = some (.string r.txt)) (first | go_keep | assumption | exact (bl_cell_other _ _ _ _ (by show wr.heap.size ≠ lb; omega)).trans s1)
              (first | (go_at_call 81; (with_reducible refine RP.out.mono ?_); rintro e w3 ⟨rfl, s1, s2, s3, s4⟩) | fail)
            have HS := Lib.hid (s4.out.set hlt (s := sp ++ r.txt) (by rw [HLn.out, ← hspd, ← cat_data]))
            go_wp2_with fail
            go_roundw
            case rel => exact ⟨k + 1, by omega, by rw [hbn.out], by rw [he'.out]; go_num, by go_num, hNB.out hn'.out, HS.out⟩
            case measure => simp [intOf]; omega
          · have hbn : Hid (baseT rs (k + 1) = bs) := by show _ = _; rw [HBase.out, if_neg hb0]
            have hb1 : decide (bs < 0) = false := decide_eq_false hb0
            have hb2 : 0 ≤ bs := by omega
            clear hb0
            by_cases h1 : a < bs
            · have h1' : decide (a < bs) = true := decide_eq_true h1
              have HV := Lib.hid (HBAD.out (by rw [HBd.out, hbn.out]; simp; omega))
              clear HBase HBd HLine HBAD hNB
              have f0 := bl_block_cell HF.out.ft 0
              have f1 := bl_block_cell HF.out.ft 1
              have f2 := bl_block_free HF.out.ft 0
              have f3 := bl_block_free HF.out.ft 1
              go_wp2_with (refine wpList_store_row rfl 53 _ _ rfl wr.heap.size #[.int .i64 r.col, .string r.txt, .int .i64 r.ln] rfl rfl 53 _ HK0.out.1 (by kernel_rfl) rfl (row_one _ _ _) ?_)
              generalize hw5 : ((wr.alloc (.cells #[.int .i64 0, .string ⟨#[]⟩, .int .i64 0] 53)).setRow wr.heap.size #[.int .i64 r.col, .string r.txt, .int .i64 r.ln]) = w5 at HF HK q0 q1 q2 f0 f1 f2 f3 ⊢
              clear hw5
              go_region
              all_goals
                go_wp2_with fail
                have hbs := bl_block_set (bl_block_set HF.out.ft 0 (.int .i64 9)) 1 (.int .i64 r.ln)
                have z0 := bl_block_cell hbs 0
                have z1 := bl_block_cell hbs 1
                refine bodyPost_ret (v := .tuple #[.string ⟨#[]⟩, .int .i64 0, .agg #[.int .i64 9, .int .i64 r.ln]]) (by simp [results, Tryd.results55, go_sem, z0, z1]) rfl ⟨by rw [HV.out], ?_⟩
                first
                  | exact ((HF.out.old.setCell (p := ⟨w.heap.size + 1 + 1, 0, none⟩) (by simp; omega) _).setCell (p := ⟨w.heap.size + 1 + 1, 1, none⟩) (by simp; omega) _).drew
                  | exact ((HF.out.old.drew.setCell (p := ⟨w.heap.size + 1 + 1, 0, none⟩) (by simp; omega) _).setCell (p := ⟨w.heap.size + 1 + 1, 1, none⟩) (by simp; omega) _)
            · have h1' : decide (a < bs) = false := decide_eq_false h1
              have h1n : bs ≤ a := by omega
              clear h1
              by_cases h2 : 65536 < a - bs
              · have h2' : decide (65536 < a - bs) = true := decide_eq_true h2
                have HV := Lib.hid (HBAD.out (by rw [HBd.out, hbn.out]; simp; omega))
                clear HBase HBd HLine HBAD hNB
                have f0 := bl_block_cell HF.out.ft 0
                have f1 := bl_block_cell HF.out.ft 1
                have f2 := bl_block_free HF.out.ft 0
                have f3 := bl_block_free HF.out.ft 1
                go_wp2_with (refine wpList_store_row rfl 53 _ _ rfl wr.heap.size #[.int .i64 r.col, .string r.txt, .int .i64 r.ln] rfl rfl 53 _ HK0.out.1 (by kernel_rfl) rfl (row_one _ _ _) ?_)
                generalize hw5 : ((wr.alloc (.cells #[.int .i64 0, .string ⟨#[]⟩, .int .i64 0] 53)).setRow wr.heap.size #[.int .i64 r.col, .string r.txt, .int .i64 r.ln]) = w5 at HF HK q0 q1 q2 f0 f1 f2 f3 ⊢
                clear hw5
                go_region
                all_goals
                  go_wp2_with fail
                  have hbs := bl_block_set (bl_block_set HF.out.ft 0 (.int .i64 9)) 1 (.int .i64 r.ln)
                  have z0 := bl_block_cell hbs 0
                  have z1 := bl_block_cell hbs 1
                  refine bodyPost_ret (v := .tuple #[.string ⟨#[]⟩, .int .i64 0, .agg #[.int .i64 9, .int .i64 r.ln]]) (by simp [results, Tryd.results55, go_sem, z0, z1]) rfl ⟨by rw [HV.out], ?_⟩
                  first
                    | exact ((HF.out.old.setCell (p := ⟨w.heap.size + 1 + 1, 0, none⟩) (by simp; omega) _).setCell (p := ⟨w.heap.size + 1 + 1, 1, none⟩) (by simp; omega) _).drew
                    | exact ((HF.out.old.drew.setCell (p := ⟨w.heap.size + 1 + 1, 0, none⟩) (by simp; omega) _).setCell (p := ⟨w.heap.size + 1 + 1, 1, none⟩) (by simp; omega) _)
              · have h2' : decide (65536 < a - bs) = false := decide_eq_false h2
                have h2n : a - bs ≤ 65536 := by omega
                clear h2 HBAD
                have hn' : Hid (badT rs k = false) := by show _ = _; rw [HBd.out, hbn.out]; first | (simp; done) | (simp; omega)
                have hwd : IntKind.i64.wrap (a - bs) = a - bs := by rw [IntKind.wrap_i64]; omega
                have HLn : Hid (lineT rs k = List.replicate (a - bs).toNat 32 ++ r.txt.data.toList) := by show _ = _; rw [HLine.out, hbn.out]
                obtain ⟨sp, hsp⟩ : ∃ s : ByteArray, s = ⟨(List.replicate (a - bs).toNat 32).toArray⟩ := ⟨_, rfl⟩
                have hspz : sp.size ≤ 65536 := by rw [hsp]; simp [ByteArray.size]; omega
                have hadd : ¬ (9223372036854775807 < sp.size + r.txt.size) := by omega
                have hspd : sp.data.toList = List.replicate (a - bs).toNat 32 := by rw [hsp]
                have RP : Hid (Calls Tryd.prog 81 #[.string ⟨#[32]⟩, .int .i64 (a - bs)] (((wr.alloc (.cells #[.int .i64 0, .string ⟨#[]⟩, .int .i64 0] 53)).setRow wr.heap.size #[.int .i64 r.col, .string r.txt, .int .i64 r.ln]).drew) fun e w' => e = .returned (.string sp) ∧ w'.cell? ⟨wr.heap.size, 1, none⟩ = some (.string r.txt) ∧ w'.cell? ⟨lb, k, none⟩ = some (.string ⟨#[]⟩) ∧ w'.frozen? ⟨lb, k, none⟩ = false ∧ Hid (TakeInv w rs folded chomp lb n k w')) := by
                  have h := rep_blank (a - bs).toNat (by omega) (((wr.alloc (.cells #[.int .i64 0, .string ⟨#[]⟩, .int .i64 0] 53)).setRow wr.heap.size #[.int .i64 r.col, .string r.txt, .int .i64 r.ln]).drew)
                  rw [show (((a - bs).toNat : Nat) : Int) = (a - bs) by omega, ← hsp] at h
                  refine h.mono fun e w' ⟨he, hb⟩ => ?_
                  have hb' : Below wr.heap.size wr w' := HK.out.2.drew.trans (hb.mono HK.out.2.drew.size)
                  have hf' : TakeInv w rs folded chomp lb n k w' := (HF.out.below ⟨rfl, rfl, rfl, Nat.le_refl _, fun _ _ => rfl⟩ : TakeInv w rs folded chomp lb n k (((wr.alloc (.cells #[.int .i64 0, .string ⟨#[]⟩, .int .i64 0] 53)).setRow wr.heap.size #[.int .i64 r.col, .string r.txt, .int .i64 r.ln]).drew)).below hb
                  obtain ⟨cur, h1, h2, h3, h4⟩ := hf'.ar
                  refine ⟨he, ?_, by rw [bl_block_cell h1]; exact h4 k (Nat.le_refl _) hlt, bl_block_free h1 k, hf'⟩
                  exact (hb.cell (p := ⟨wr.heap.size, 1, none⟩) (bl_block_lt HK.out.1)).trans q1
                clear hsp HBase HBd HLine
                go_wp2_with (refine wpList_store_row rfl 53 _ _ rfl wr.heap.size #[.int .i64 r.col, .string r.txt, .int .i64 r.ln] rfl rfl 53 _ HK0.out.1 (by kernel_rfl) rfl (row_one _ _ _) ?_)
                go_region_held3 (fun w' => w'.cell? ⟨wr.heap.size, 1, none⟩ = some (.string r.txt)) (first | go_keep | assumption | exact (bl_cell_other _ _ _ _ (by show wr.heap.size ≠ lb; omega)).trans s1)
                  (first | (go_at_call 81; (with_reducible refine RP.out.mono ?_); rintro e w3 ⟨rfl, s1, s2, s3, s4⟩) | fail)
                have HS := Lib.hid (s4.out.set hlt (s := sp ++ r.txt) (by rw [HLn.out, ← hspd, ← cat_data]))
                go_wp2_with fail
                go_roundw
                case rel => exact ⟨k + 1, by omega, by rw [hbn.out], by rw [he'.out]; go_num, by go_num, hNB.out hn'.out, HS.out⟩
                case measure => simp [intOf]; omega
      · obtain rfl : n = k := by omega
        have HTV : Hid (takeV rs col folded chomp = .tuple #[.string ⟨(textT rs n folded chomp).toArray⟩, .int .i64 (n : Nat), .agg #[.int .i64 0, .int .i64 0]]) := by
          show _ = _; unfold takeV; rw [HN.out, badAt_none hnb.out]
        have hes := endT_le rs n
        have hbulk := linesT_bulk rs (endT rs n) (by omega) fun j hj => hnb.out j (by omega)
        have hbt := bulkT_le rs (endT rs n)
        have hfl := foldL_le (linesT rs (endT rs n))
        have hjl := joinT_le (linesT rs (endT rs n))
        have hll : (linesT rs (endT rs n)).length = endT rs n := by simp [linesT]
        have HTX : Hid (textT rs n folded chomp = (if folded = true then foldL (linesT rs (endT rs n)) else joinT (linesT rs (endT rs n))) ++ (if chomp ≠ 1 ∧ 0 < endT rs n then [10] else []) ++ (if chomp = 2 then List.replicate (n - endT rs n) 10 else [])) := rfl
        obtain ⟨cur, hcur, hcs, hca, _⟩ := hf.out.ar
        have hss : ∀ j, j < endT rs n → wr.cell? ⟨lb, 0 + j, none⟩ = some (.string ⟨((linesT rs (endT rs n)).getD j []).toArray⟩) := fun j hj => by
          rw [Nat.zero_add, bl_block_cell hcur, hca j (by omega) (by omega)]
          simp [linesT, List.getD_eq_getElem?_getD, hj]
        have hlbs := bl_block_lt hcur
        obtain ⟨es, hes0⟩ : ∃ es, endT rs n = es := ⟨_, rfl⟩
        obtain ⟨L, hL⟩ : ∃ L, linesT rs (endT rs n) = L := ⟨_, rfl⟩
        rw [hL] at hbulk hfl hjl hll HTX hss
        rw [hes0] at hes hbulk hbt hll HTX hss ⊢
        have g : StrsIn wr (some ⟨lb, 0, none⟩) n (L.map fun l => (⟨l.toArray⟩ : ByteArray)) := ⟨fun i hi => ⟨lb, 0, rfl, hlbs, by
          have hi' : i < es := by simpa [hll] using hi
          rw [hss i hi']
          simp [List.getD_eq_getElem?_getD, show i < L.length by omega]⟩, by simp [hll]; omega⟩
        have hln : lns (L.map fun l => (⟨l.toArray⟩ : ByteArray)) = L := bl_map L
        have hb9 : bulkL L ≤ 755360000 := by omega
        have FD := fold_any (some ⟨lb, 0, none⟩) n (L.map fun l => (⟨l.toArray⟩ : ByteArray)) wr g (by simp [hll]; omega) (by rw [hln]; omega)
        rw [hln, List.length_map, hll] at FD
        have JN : Hid (∀ W, Below wr.heap.size wr W → Calls Tryd.prog 89 #[.slice (some ⟨lb, 0, none⟩) es n, .string ⟨#[10]⟩] W fun e w' => e = .returned (.string ⟨(joinT L).toArray⟩) ∧ Below W.heap.size W w') := fun W hW => by
          have hmm : (L.map fun l => (⟨l.toArray⟩ : ByteArray)).map (·.data.toList) = L := bl_map L
          have h := Tryd.strings_Join lb 0 n (L.map fun l => (⟨l.toArray⟩ : ByteArray)) ⟨#[10]⟩ W (fun j x hj => by
            have hj' : j < L.length := by have := (List.getElem?_eq_some_iff.1 hj).1; simpa using this
            have hx : x = ⟨L[j].toArray⟩ := by
              rw [List.getElem?_map, List.getElem?_eq_getElem hj'] at hj
              exact (Option.some.inj hj).symm
            rw [(hW.cell (p := ⟨lb, 0 + j, none⟩) hlbs), hss j (by omega), hx]
            simp [List.getD_eq_getElem?_getD, hj']) (Nat.lt_of_lt_of_le hlbs hW.size) (by simp [hll]; omega) (by simp [hll]; omega) (by rw [hmm]; show (joinT L).length ≤ _; omega)
          rw [hmm, List.length_map, hll] at h
          exact h
        have hst : ∀ W, (Instr.sliceAt 48 (.slice (some ⟨lb, 0, none⟩) n n) none (some (.int .i64 (es : Int))) none).run Tryd.prog W = .ok (.slice (some ⟨lb, 0, none⟩) es n) W := fun W => strs_to _ n n es hes W
        have RPL : Hid (∀ W, Calls Tryd.prog 81 #[.string ⟨#[10]⟩, .int .i64 ((n : Int) - (es : Int))] W fun e w' => e = .returned (.string ⟨(List.replicate (n - es) 10).toArray⟩) ∧ Below W.heap.size W w') := fun W => by
          have h := rep_line (n - es) (by omega) W
          rw [show ((n - es : Nat) : Int) = (n : Int) - (es : Int) by omega] at h
          exact h
        have FDH := Lib.hid FD
        have hn4 : n ≤ 10000 := by omega
        obtain ⟨fb, hfb⟩ : ∃ s : ByteArray, s = ⟨(foldL L).toArray⟩ := ⟨_, rfl⟩
        obtain ⟨jb, hjb⟩ : ∃ s : ByteArray, s = ⟨(joinT L).toArray⟩ := ⟨_, rfl⟩
        have hfd : fb.data.toList = foldL L := by rw [hfb]
        have hjd : jb.data.toList = joinT L := by rw [hjb]
        have hfz : fb.size ≤ 800000000 := by rw [← bl_size, hfd]; omega
        have hjz : jb.size ≤ 800000000 := by rw [← bl_size, hjd]; omega
        rw [← hfb] at FDH
        rw [← hjb] at JN
        rw [← hfd, ← hjd] at HTX
        have y0 := bl_block_cell hf.out.st 0
        clear FD g hln hbulk hfl hjl hss hL hes0 hcur hcs hca hlbs hll hbt hnb hfb hjb hfd hjd hb9
        go_wp2_with fail
        refine FDH.out.mono ?_
        rintro e W4 ⟨rfl, hb4⟩
        have HF4 := Lib.hid (hf.out.below hb4)
        have HB4 := Lib.hid hb4
        have y1 := bl_block_cell HF4.out.st 0
        have y2 := bl_block_cell HF4.out.st 1
        clear hb4 hf FDH y0
        cases folded with
        | true =>
          simp only [if_true] at HTX
          have HF5 := HF4
          skip
          have hadd1 : fb.size + (⟨#[10]⟩ : ByteArray).size ≤ 9223372036854775807 := by show fb.size + 1 ≤ 9223372036854775807; omega
          by_cases hc1 : chomp = 1
          · have k1 : (chomp != 1) = false := by rw [hc1]; rfl
            have k2 : (chomp == 2) = false := by rw [hc1]; rfl
            clear hc1
            have hcx : ¬ (chomp ≠ 1 ∧ 0 < es) := fun h => by simp [h.1] at k1
            have hcy : chomp ≠ 2 := fun h => by simp [h] at k2
            have HCX := Lib.hid hcx
            have HCY := Lib.hid hcy
            clear hcx hcy
            go_wp2_with (refine wpList_store_row rfl 33 _ _ rfl (w.heap.size + 1 + 1) #[.int .i64 0, .int .i64 0] rfl rfl 33 _ HF5.out.ft (by kernel_rfl) rfl (two_one _ _) ?_)
            have hz := setRow_heap _ _ _ #[Value.int .i64 0, Value.int .i64 0] _ _ HF5.out.ft
            have z0 := bl_block_cell hz 0
            have z1 := bl_block_cell hz 1
            refine bodyPost_ret (v := .tuple #[.string (fb), .int .i64 (n : Nat), .agg #[.int .i64 0, .int .i64 0]]) (by simp [results, Tryd.results55, go_sem, z0, z1]) rfl ⟨?_, ?_⟩
            · rw [HTV.out]
              refine congrArg (fun x => Ending.returned (.tuple #[x, .int .i64 (n : Nat), .agg #[.int .i64 0, .int .i64 0]])) ?_
              refine bl_str_eq ?_
              rw [HTX.out]
              rw [if_neg HCX.out, if_neg HCY.out, List.append_nil, List.append_nil]
            · exact HF5.out.old.trans (bl_setRow_below _ (by omega) _)
          · have k1 : (chomp != 1) = true := by simpa using hc1
            have HC1 := Lib.hid hc1
            clear hc1
            by_cases he0 : 0 < es
            · have HE0 := Lib.hid he0
              have ke : decide (0 < es) = true := decide_eq_true he0
              have hcx : Hid (chomp ≠ 1 ∧ 0 < es) := ⟨HC1.out, he0⟩
              clear he0
              by_cases hc2 : chomp = 2
              · have k2 : (chomp == 2) = true := by rw [hc2]; rfl
                have HC2 := Lib.hid hc2
                clear hc2
                go_wp2_with fail
                refine (RPL.out _).mono ?_
                rintro e W6 ⟨rfl, hb6⟩
                have HF6 := Lib.hid (HF5.out.below hb6)
                obtain ⟨rp, hrp⟩ : ∃ s : ByteArray, s = ⟨(List.replicate (n - es) 10).toArray⟩ := ⟨_, rfl⟩
                have hrd : rp.data.toList = List.replicate (n - es) 10 := by rw [hrp]
                have hrz : rp.size ≤ 10000 := by rw [hrp]; simp [ByteArray.size]; omega
                have hadd3 : (fb ++ ⟨#[10]⟩).size + rp.size ≤ 9223372036854775807 := by rw [← bl_size, cat_data, List.length_append, bl_size]; show fb.size + 1 + rp.size ≤ 9223372036854775807; omega
                have HRD := Lib.hid hrd
                rw [← hrp]
                clear hb6 hrp hrd
                go_wp2_with (refine wpList_store_row rfl 33 _ _ rfl (w.heap.size + 1 + 1) #[.int .i64 0, .int .i64 0] rfl rfl 33 _ HF6.out.ft (by kernel_rfl) rfl (two_one _ _) ?_)
                have hz := setRow_heap _ _ _ #[Value.int .i64 0, Value.int .i64 0] _ _ HF6.out.ft
                have z0 := bl_block_cell hz 0
                have z1 := bl_block_cell hz 1
                refine bodyPost_ret (v := .tuple #[.string ((fb ++ ⟨#[10]⟩) ++ rp), .int .i64 (n : Nat), .agg #[.int .i64 0, .int .i64 0]]) (by simp [results, Tryd.results55, go_sem, z0, z1]) rfl ⟨?_, ?_⟩
                · rw [HTV.out]
                  refine congrArg (fun x => Ending.returned (.tuple #[x, .int .i64 (n : Nat), .agg #[.int .i64 0, .int .i64 0]])) ?_
                  refine bl_str_eq ?_
                  rw [HTX.out]
                  rw [cat_data, HRD.out, if_pos HC2.out, if_pos hcx.out, cat_data]
                · exact HF6.out.old.trans (bl_setRow_below _ (by omega) _)
              · have k2 : (chomp == 2) = false := by simpa using hc2
                have HC2 := Lib.hid hc2
                clear hc2
                go_wp2_with (refine wpList_store_row rfl 33 _ _ rfl (w.heap.size + 1 + 1) #[.int .i64 0, .int .i64 0] rfl rfl 33 _ HF5.out.ft (by kernel_rfl) rfl (two_one _ _) ?_)
                have hz := setRow_heap _ _ _ #[Value.int .i64 0, Value.int .i64 0] _ _ HF5.out.ft
                have z0 := bl_block_cell hz 0
                have z1 := bl_block_cell hz 1
                refine bodyPost_ret (v := .tuple #[.string (fb ++ ⟨#[10]⟩), .int .i64 (n : Nat), .agg #[.int .i64 0, .int .i64 0]]) (by simp [results, Tryd.results55, go_sem, z0, z1]) rfl ⟨?_, ?_⟩
                · rw [HTV.out]
                  refine congrArg (fun x => Ending.returned (.tuple #[x, .int .i64 (n : Nat), .agg #[.int .i64 0, .int .i64 0]])) ?_
                  refine bl_str_eq ?_
                  rw [HTX.out]
                  rw [if_neg HC2.out, if_pos hcx.out, List.append_nil, cat_data]
                · exact HF5.out.old.trans (bl_setRow_below _ (by omega) _)
            · have HE0 := Lib.hid he0
              have ke : decide (0 < es) = false := decide_eq_false he0
              have hcx : Hid (¬ (chomp ≠ 1 ∧ 0 < es)) := fun h => HE0.out h.2
              clear he0
              by_cases hc2 : chomp = 2
              · have k2 : (chomp == 2) = true := by rw [hc2]; rfl
                have HC2 := Lib.hid hc2
                clear hc2
                go_wp2_with fail
                refine (RPL.out _).mono ?_
                rintro e W6 ⟨rfl, hb6⟩
                have HF6 := Lib.hid (HF5.out.below hb6)
                obtain ⟨rp, hrp⟩ : ∃ s : ByteArray, s = ⟨(List.replicate (n - es) 10).toArray⟩ := ⟨_, rfl⟩
                have hrd : rp.data.toList = List.replicate (n - es) 10 := by rw [hrp]
                have hrz : rp.size ≤ 10000 := by rw [hrp]; simp [ByteArray.size]; omega
                have hadd3 : (fb).size + rp.size ≤ 9223372036854775807 := by omega
                have HRD := Lib.hid hrd
                rw [← hrp]
                clear hb6 hrp hrd
                go_wp2_with (refine wpList_store_row rfl 33 _ _ rfl (w.heap.size + 1 + 1) #[.int .i64 0, .int .i64 0] rfl rfl 33 _ HF6.out.ft (by kernel_rfl) rfl (two_one _ _) ?_)
                have hz := setRow_heap _ _ _ #[Value.int .i64 0, Value.int .i64 0] _ _ HF6.out.ft
                have z0 := bl_block_cell hz 0
                have z1 := bl_block_cell hz 1
                refine bodyPost_ret (v := .tuple #[.string (fb ++ rp), .int .i64 (n : Nat), .agg #[.int .i64 0, .int .i64 0]]) (by simp [results, Tryd.results55, go_sem, z0, z1]) rfl ⟨?_, ?_⟩
                · rw [HTV.out]
                  refine congrArg (fun x => Ending.returned (.tuple #[x, .int .i64 (n : Nat), .agg #[.int .i64 0, .int .i64 0]])) ?_
                  refine bl_str_eq ?_
                  rw [HTX.out]
                  rw [cat_data, HRD.out, if_pos HC2.out, if_neg hcx.out, List.append_nil]
                · exact HF6.out.old.trans (bl_setRow_below _ (by omega) _)
              · have k2 : (chomp == 2) = false := by simpa using hc2
                have HC2 := Lib.hid hc2
                clear hc2
                go_wp2_with (refine wpList_store_row rfl 33 _ _ rfl (w.heap.size + 1 + 1) #[.int .i64 0, .int .i64 0] rfl rfl 33 _ HF5.out.ft (by kernel_rfl) rfl (two_one _ _) ?_)
                have hz := setRow_heap _ _ _ #[Value.int .i64 0, Value.int .i64 0] _ _ HF5.out.ft
                have z0 := bl_block_cell hz 0
                have z1 := bl_block_cell hz 1
                refine bodyPost_ret (v := .tuple #[.string (fb), .int .i64 (n : Nat), .agg #[.int .i64 0, .int .i64 0]]) (by simp [results, Tryd.results55, go_sem, z0, z1]) rfl ⟨?_, ?_⟩
                · rw [HTV.out]
                  refine congrArg (fun x => Ending.returned (.tuple #[x, .int .i64 (n : Nat), .agg #[.int .i64 0, .int .i64 0]])) ?_
                  refine bl_str_eq ?_
                  rw [HTX.out]
                  rw [if_neg HC2.out, if_neg hcx.out, List.append_nil, List.append_nil]
                · exact HF5.out.old.trans (bl_setRow_below _ (by omega) _)
        | false =>
          simp only [Bool.false_eq_true, if_false] at HTX
          go_wp2_with fail
          refine (JN.out W4 HB4.out).mono ?_
          rintro e W5 ⟨rfl, hb5⟩
          have HF5 := Lib.hid (HF4.out.below hb5)
          have y3 := bl_block_cell HF5.out.st 0
          have y4 := bl_block_cell HF5.out.st 1
          clear hb5 y1 y2
          have hadd1 : jb.size + (⟨#[10]⟩ : ByteArray).size ≤ 9223372036854775807 := by show jb.size + 1 ≤ 9223372036854775807; omega
          by_cases hc1 : chomp = 1
          · have k1 : (chomp != 1) = false := by rw [hc1]; rfl
            have k2 : (chomp == 2) = false := by rw [hc1]; rfl
            clear hc1
            have hcx : ¬ (chomp ≠ 1 ∧ 0 < es) := fun h => by simp [h.1] at k1
            have hcy : chomp ≠ 2 := fun h => by simp [h] at k2
            have HCX := Lib.hid hcx
            have HCY := Lib.hid hcy
            clear hcx hcy
            go_wp2_with (refine wpList_store_row rfl 33 _ _ rfl (w.heap.size + 1 + 1) #[.int .i64 0, .int .i64 0] rfl rfl 33 _ HF5.out.ft (by kernel_rfl) rfl (two_one _ _) ?_)
            have hz := setRow_heap _ _ _ #[Value.int .i64 0, Value.int .i64 0] _ _ HF5.out.ft
            have z0 := bl_block_cell hz 0
            have z1 := bl_block_cell hz 1
            refine bodyPost_ret (v := .tuple #[.string (jb), .int .i64 (n : Nat), .agg #[.int .i64 0, .int .i64 0]]) (by simp [results, Tryd.results55, go_sem, z0, z1]) rfl ⟨?_, ?_⟩
            · rw [HTV.out]
              refine congrArg (fun x => Ending.returned (.tuple #[x, .int .i64 (n : Nat), .agg #[.int .i64 0, .int .i64 0]])) ?_
              refine bl_str_eq ?_
              rw [HTX.out]
              rw [if_neg HCX.out, if_neg HCY.out, List.append_nil, List.append_nil]
            · exact HF5.out.old.trans (bl_setRow_below _ (by omega) _)
          · have k1 : (chomp != 1) = true := by simpa using hc1
            have HC1 := Lib.hid hc1
            clear hc1
            by_cases he0 : 0 < es
            · have HE0 := Lib.hid he0
              have ke : decide (0 < es) = true := decide_eq_true he0
              have hcx : Hid (chomp ≠ 1 ∧ 0 < es) := ⟨HC1.out, he0⟩
              clear he0
              by_cases hc2 : chomp = 2
              · have k2 : (chomp == 2) = true := by rw [hc2]; rfl
                have HC2 := Lib.hid hc2
                clear hc2
                go_wp2_with fail
                refine (RPL.out _).mono ?_
                rintro e W6 ⟨rfl, hb6⟩
                have HF6 := Lib.hid (HF5.out.below hb6)
                obtain ⟨rp, hrp⟩ : ∃ s : ByteArray, s = ⟨(List.replicate (n - es) 10).toArray⟩ := ⟨_, rfl⟩
                have hrd : rp.data.toList = List.replicate (n - es) 10 := by rw [hrp]
                have hrz : rp.size ≤ 10000 := by rw [hrp]; simp [ByteArray.size]; omega
                have hadd3 : (jb ++ ⟨#[10]⟩).size + rp.size ≤ 9223372036854775807 := by rw [← bl_size, cat_data, List.length_append, bl_size]; show jb.size + 1 + rp.size ≤ 9223372036854775807; omega
                have HRD := Lib.hid hrd
                rw [← hrp]
                clear hb6 hrp hrd
                go_wp2_with (refine wpList_store_row rfl 33 _ _ rfl (w.heap.size + 1 + 1) #[.int .i64 0, .int .i64 0] rfl rfl 33 _ HF6.out.ft (by kernel_rfl) rfl (two_one _ _) ?_)
                have hz := setRow_heap _ _ _ #[Value.int .i64 0, Value.int .i64 0] _ _ HF6.out.ft
                have z0 := bl_block_cell hz 0
                have z1 := bl_block_cell hz 1
                refine bodyPost_ret (v := .tuple #[.string ((jb ++ ⟨#[10]⟩) ++ rp), .int .i64 (n : Nat), .agg #[.int .i64 0, .int .i64 0]]) (by simp [results, Tryd.results55, go_sem, z0, z1]) rfl ⟨?_, ?_⟩
                · rw [HTV.out]
                  refine congrArg (fun x => Ending.returned (.tuple #[x, .int .i64 (n : Nat), .agg #[.int .i64 0, .int .i64 0]])) ?_
                  refine bl_str_eq ?_
                  rw [HTX.out]
                  rw [cat_data, HRD.out, if_pos HC2.out, if_pos hcx.out, cat_data]
                · exact HF6.out.old.trans (bl_setRow_below _ (by omega) _)
              · have k2 : (chomp == 2) = false := by simpa using hc2
                have HC2 := Lib.hid hc2
                clear hc2
                go_wp2_with (refine wpList_store_row rfl 33 _ _ rfl (w.heap.size + 1 + 1) #[.int .i64 0, .int .i64 0] rfl rfl 33 _ HF5.out.ft (by kernel_rfl) rfl (two_one _ _) ?_)
                have hz := setRow_heap _ _ _ #[Value.int .i64 0, Value.int .i64 0] _ _ HF5.out.ft
                have z0 := bl_block_cell hz 0
                have z1 := bl_block_cell hz 1
                refine bodyPost_ret (v := .tuple #[.string (jb ++ ⟨#[10]⟩), .int .i64 (n : Nat), .agg #[.int .i64 0, .int .i64 0]]) (by simp [results, Tryd.results55, go_sem, z0, z1]) rfl ⟨?_, ?_⟩
                · rw [HTV.out]
                  refine congrArg (fun x => Ending.returned (.tuple #[x, .int .i64 (n : Nat), .agg #[.int .i64 0, .int .i64 0]])) ?_
                  refine bl_str_eq ?_
                  rw [HTX.out]
                  rw [if_neg HC2.out, if_pos hcx.out, List.append_nil, cat_data]
                · exact HF5.out.old.trans (bl_setRow_below _ (by omega) _)
            · have HE0 := Lib.hid he0
              have ke : decide (0 < es) = false := decide_eq_false he0
              have hcx : Hid (¬ (chomp ≠ 1 ∧ 0 < es)) := fun h => HE0.out h.2
              clear he0
              by_cases hc2 : chomp = 2
              · have k2 : (chomp == 2) = true := by rw [hc2]; rfl
                have HC2 := Lib.hid hc2
                clear hc2
                go_wp2_with fail
                refine (RPL.out _).mono ?_
                rintro e W6 ⟨rfl, hb6⟩
                have HF6 := Lib.hid (HF5.out.below hb6)
                obtain ⟨rp, hrp⟩ : ∃ s : ByteArray, s = ⟨(List.replicate (n - es) 10).toArray⟩ := ⟨_, rfl⟩
                have hrd : rp.data.toList = List.replicate (n - es) 10 := by rw [hrp]
                have hrz : rp.size ≤ 10000 := by rw [hrp]; simp [ByteArray.size]; omega
                have hadd3 : (jb).size + rp.size ≤ 9223372036854775807 := by omega
                have HRD := Lib.hid hrd
                rw [← hrp]
                clear hb6 hrp hrd
                go_wp2_with (refine wpList_store_row rfl 33 _ _ rfl (w.heap.size + 1 + 1) #[.int .i64 0, .int .i64 0] rfl rfl 33 _ HF6.out.ft (by kernel_rfl) rfl (two_one _ _) ?_)
                have hz := setRow_heap _ _ _ #[Value.int .i64 0, Value.int .i64 0] _ _ HF6.out.ft
                have z0 := bl_block_cell hz 0
                have z1 := bl_block_cell hz 1
                refine bodyPost_ret (v := .tuple #[.string (jb ++ rp), .int .i64 (n : Nat), .agg #[.int .i64 0, .int .i64 0]]) (by simp [results, Tryd.results55, go_sem, z0, z1]) rfl ⟨?_, ?_⟩
                · rw [HTV.out]
                  refine congrArg (fun x => Ending.returned (.tuple #[x, .int .i64 (n : Nat), .agg #[.int .i64 0, .int .i64 0]])) ?_
                  refine bl_str_eq ?_
                  rw [HTX.out]
                  rw [cat_data, HRD.out, if_pos HC2.out, if_neg hcx.out, List.append_nil]
                · exact HF6.out.old.trans (bl_setRow_below _ (by omega) _)
              · have k2 : (chomp == 2) = false := by simpa using hc2
                have HC2 := Lib.hid hc2
                clear hc2
                go_wp2_with (refine wpList_store_row rfl 33 _ _ rfl (w.heap.size + 1 + 1) #[.int .i64 0, .int .i64 0] rfl rfl 33 _ HF5.out.ft (by kernel_rfl) rfl (two_one _ _) ?_)
                have hz := setRow_heap _ _ _ #[Value.int .i64 0, Value.int .i64 0] _ _ HF5.out.ft
                have z0 := bl_block_cell hz 0
                have z1 := bl_block_cell hz 1
                refine bodyPost_ret (v := .tuple #[.string (jb), .int .i64 (n : Nat), .agg #[.int .i64 0, .int .i64 0]]) (by simp [results, Tryd.results55, go_sem, z0, z1]) rfl ⟨?_, ?_⟩
                · rw [HTV.out]
                  refine congrArg (fun x => Ending.returned (.tuple #[x, .int .i64 (n : Nat), .agg #[.int .i64 0, .int .i64 0]])) ?_
                  refine bl_str_eq ?_
                  rw [HTX.out]
                  rw [if_neg HC2.out, if_neg hcx.out, List.append_nil, List.append_nil]
                · exact HF5.out.old.trans (bl_setRow_below _ (by omega) _)
end Go.Proofs.YtnggbhpnpomfjaaDoor.Bl
