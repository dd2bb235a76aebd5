import Derived.Test.YthmmhbeafbdglaaFrNum
import Derived.StillTailTactics
import Derived.Deep.RegionHeld3
namespace Go.Proofs.Ythmmhbeafbdglaa
open Go.RowKit
theorem madeBytes (n : Nat) : madeCells #[.int .u8 0] n = (cellsOf (List.replicate n 0)).toArray := by
  apply Array.ext
  · simp [size_madeCells, cellsOf]
  · intro i h1 h2
    have hi : i < n := by simpa [size_madeCells] using h1
    simp [madeCells, cellsOf, Nat.mod_one]
theorem make_bytes (l c : Nat) (hlc : l ≤ c) (hc : c ≤ 281474976710656) (w : World) :
    (Instr.makeSlice 28 (.int .i64 (l : Int)) (.int .i64 (c : Int))).run Try.prog w = .ok (.slice (some ⟨w.heap.size, 0, none⟩) l c) (w.alloc (.cells (cellsOf (List.replicate c 0)).toArray 5)) := by
  obtain ⟨i0, hi, hz0, hz1, hz2⟩ := info_parts infoU8
  have h := run_make (P := Try.prog) w 28 5 i0 (.int .u8 0) Try.underlying28 hi hz0 .i64 .i64 (l : Int) (c : Int) (by omega) (by omega) (by rw [hz2]; omega) (by omega)
  rw [hz1] at h
  rw [← madeBytes]
  simpa [Value.cells] using h
theorem yrec_cells : (((⟨#[89, 82, 69, 67]⟩ : ByteArray).extract 0 4).data.map fun b => Value.int .u8 (b.toNat : Int)).toList = cellsOf [89, 82, 69, 67] := by kernel_rfl
/-- the magic laid into a row that was just made -/
theorem copy_yrec (W : World) (g n cap : Nat) (L : List Nat) (hg : g = W.heap.size) (hn : 4 ≤ n) (hl : 4 ≤ L.length) :
    (Builtin.copy_ #[28, 9] 3 #[.slice (some ⟨g, 0, none⟩) n cap, .string ⟨#[89, 82, 69, 67]⟩]).run Try.prog (W.alloc (.cells (cellsOf L).toArray 5)) =
      .ok (goInt 4) (W.alloc (.cells (cellsOf ([89, 82, 69, 67] ++ L.drop 4)).toArray 5)) := by
  subst hg
  have hsz : (Try.prog.info? 5).map (·.size) = some 1 := by kernel_rfl
  have hst := run_storeCells_at Try.prog W.heap.size 0 5 (cellsOf [89, 82, 69, 67]) 0 (cellsOf L).toArray (W.alloc (.cells (cellsOf L).toArray 5)) (heap_alloc_new _ _) (by simp [cellsOf]; omega) (cellsOf_one _)
  have hmin : Nat.min 4 n = 4 := Nat.min_eq_left hn
  cases hq : Try.prog.info? 5 with
  | none => simp [hq] at hsz
  | some i =>
    have hi : i.size = 1 := by simpa [hq] using hsz
    have e1 : (⟨#[89, 82, 69, 67]⟩ : ByteArray).size = 4 := rfl
    have hst' : (storeCells ⟨W.heap.size, 0, none⟩ (cellsOf [89, 82, 69, 67])).run Try.prog (W.alloc (.cells (cellsOf L).toArray 5)) = .ok () (W.alloc (.cells (cellsOf ([89, 82, 69, 67] ++ L.drop 4)).toArray 5)) := by
      rw [hst, World.setRow_alloc_new]
      simp [cellsOf]
    simp [Builtin.copy_, run_underlying Try.underlying28, Builtin.lenOf, Builtin.firstCells, sizeOf, typeInfo, hq, e1, hmin]
    have h2 : (storeCells ⟨W.heap.size, 0, none⟩ [.int .u8 89, .int .u8 82, .int .u8 69, .int .u8 67]).run Try.prog (W.alloc (.cells (cellsOf L).toArray 5)) = .ok () (W.alloc (.cells (cellsOf (89 :: 82 :: 69 :: 67 :: L.drop 4)).toArray 5)) := hst'
    rw [h2]
    rfl

theorem Wrote.cell {w w' : World} {g : Nat} {bs : List Nat} (h : Wrote w w' g bs) {p : Addr} (hp : p.block ≠ g) (hl : p.block < w.heap.size) : w'.cell? p = w.cell? p :=
  World.cell?_of_block (w := w) (h.rest.block p.block hl (by intro e; exact hp (Option.some.inj e)))
theorem slice_mid (A : Option Addr) (len cap l h : Nat) (hl : l ≤ h) (hh : h ≤ cap) (w : World) :
    (Instr.sliceAt 28 (.slice A len cap) (some (.int .i64 (l : Int))) (some (.int .i64 (h : Int))) none).run Try.prog w = .ok (.slice (subA A l cap) (h - l) (cap - l)) w := by
  have ht : Try.prog.underlying 28 = some (.slice (Try.prog.elem 28)) := by kernel_rfl
  have hs : (sizeOf (Try.prog.elem 28)).run Try.prog w = .ok 1 w := by kernel_rfl
  rw [run_sliceAt_slice w _ _ _ _ _ ht, run_slice_lh w _ A len cap ht .i64 .i64 (l : Int) (h : Int) (by omega) (by omega) (by omega), hs]
  simp [sliced, subA, Result.andThen]
theorem subA_some (b off k cap : Nat) (h : k < cap) : subA (some ⟨b, off, none⟩) k cap = some ⟨b, off + k, none⟩ := by
  unfold subA; rw [if_neg (by omega)]; simp [addr_add]
/-- what 'Put' answers at a number and bytes that may be -/
def headB (seq : Nat) (d : List Nat) : List Nat := numB 4 d.length ++ numB 8 seq
def frameB (seq : Nat) (d : List Nat) : List Nat := [89, 82, 69, 67] ++ headB seq d ++ numB 4 (sumL [headB seq d, d]) ++ d

theorem overB_take {L : List Nat} {off n v : Nat} (h : off + n ≤ L.length) : (overB L off n v 0).take (off + n) = L.take off ++ numB n v := by
  unfold overB
  rw [Nat.add_zero, List.drop_zero, List.take_append_of_le_length (by simp [numB_length]; omega), List.take_of_length_le (by simp [numB_length]; omega)]
/-- bytes that lie within a row -/
theorem bytesAt_sub {w : World} {g : Nat} {L : List Nat} {t : TypeId} {fr : Nat × Nat} (h : w.heap[g]? = some (.cells (cellsOf L).toArray t fr)) {off : Nat} {bs : List Nat} (hb : (L.drop off).take bs.length = bs) : BytesAt w (some ⟨g, off, none⟩) bs := by
  refine Or.inr ⟨g, off, rfl, block_lt h, fun i hi => ?_⟩
  have e : ((L.drop off).take bs.length)[i]? = bs[i]? := by rw [hb]
  rw [List.getElem?_take, if_pos hi, List.getElem?_drop, List.getElem?_eq_getElem hi] at e
  have hl : off + i < L.length := (List.getElem?_eq_some_iff.1 e).1
  rw [block_cell h, cellsOf_at L hl, List.getD_eq_getElem?_getD, List.getD_eq_getElem?_getD, e, List.getElem?_eq_getElem hi]
theorem news_any {w : World} {A : Option Addr} {bs : List Nat} (h : BytesAt w A bs) : ∀ ad, A = some ad → ∀ j u, (cellsOf bs)[j]? = some u → w.cell? (ad.add j) = some u := by
  intro ad ha j u hj
  rcases h with h | ⟨b, off, h1, h2, h3⟩
  · subst h; simp [cellsOf] at hj
  · rw [h1] at ha; cases ha; exact bytes_news h3 j u hj
theorem own_row {w : World} {g base C : Nat} {L : List Nat} (h : w.heap[g]? = some (.cells (cellsOf L).toArray 5 (0, 0))) (hb : base ≤ g) (hl : L.length = C) (hC : C ≤ maxLen) {n : Nat} (hn : n ≤ C) :
    w.ownsRow base 5 1 (.slice (some ⟨g, 0, none⟩) n C) n (cellsOf (L.take n)) := by
  refine ⟨by rw [cellsOf_length]; simp; omega, Or.inr ⟨g, C, (cellsOf L).toArray, rfl, hb, h, hn, hC, by simp [cellsOf, hl], by simp [cellsOf]⟩⟩
theorem cellsOf_append (a b : List Nat) : cellsOf a ++ cellsOf b = cellsOf (a ++ b) := by simp [cellsOf]
theorem headB_bytes (seq : Nat) (d : List Nat) : AllBytes (headB seq d) := by
  intro c hc
  rcases List.mem_append.1 hc with h | h
  · exact numB_bytes _ _ c h
  · exact numB_bytes _ _ c h
theorem headB_length (seq : Nat) (d : List Nat) : (headB seq d).length = 12 := by simp [headB, numB_length]
set_option maxHeartbeats 800000 in
theorem fput_ok (seq : Nat) (A : Option Addr) (cap : Nat) (d : List Nat) (w : World) (h1 : 1 ≤ seq) (h2 : seq ≤ 4611686018427387904) (g : BytesIn w A cap d) (hl : d.length ≤ 262144) :
    Calls Try.prog 22 #[.agg #[.int .i64 seq, .slice A d.length cap]] w fun e w' => ∃ v, e = .returned (.tuple #[v, .int .i64 0]) ∧ w'.ownsRow w.heap.size 5 1 v (frameB seq d).length (cellsOf (frameB seq d)) ∧ Below w.heap.size w w' := by
  obtain ⟨C, HC⟩ : ∃ C, Hid (20 + d.length = C) := ⟨_, rfl⟩
  have hmk := fun W => make_bytes 20 (20 + d.length) (by omega) (by omega) W
  have hcp := fun (b : Obj) => copy_yrec (w.alloc b) (w.heap.size + 1) 20 (20 + d.length) (List.replicate (20 + d.length) 0) (by simp) (by omega) (by simp; omega)
  rw [show ((20 + d.length : Nat) : Int) = 20 + (d.length : Int) by omega, show ((20 : Nat) : Int) = 20 from rfl, HC.out] at hmk
  rw [HC.out, List.drop_replicate, List.cons_append, List.cons_append, List.cons_append, List.cons_append, List.nil_append] at hcp
  have hC20 : (20 : Int) ≤ (C : Int) := by have := HC.out; omega
  have hn4 : ¬ C = 4 := by omega
  have hn8 : ¬ C = 8 := by omega
  have hn16 : ¬ C = 16 := by omega
  have hb8 : (8 : Int) ≤ (C : Int) := by omega
  have hb16 : (16 : Int) ≤ (C : Int) := by omega
  have hwl : IntKind.u64.wrap (d.length : Int) = (d.length : Int) := IntWalk.u64_in _ ⟨by omega, by omega⟩
  have hws : IntKind.u64.wrap (seq : Int) = (seq : Int) := IntWalk.u64_in _ ⟨by omega, by omega⟩
  have hwc : ∀ S : Nat, S < 4294967296 → IntKind.u64.wrap (S : Int) = (S : Int) := fun S h => IntWalk.u64_in _ ⟨by omega, by omega⟩
  have hl0 := sumL_lt [headB seq d, d]
  obtain ⟨S, HS⟩ : ∃ S, Hid (sumL [headB seq d, d] = S) := ⟨_, rfl⟩
  rw [HS.out] at hl0
  have hwS := hwc S hl0
  clear hwc
  obtain ⟨L0, hL0⟩ : ∃ L0 : List Nat, 89 :: 82 :: 69 :: 67 :: List.replicate (C - 4) 0 = L0 := ⟨_, rfl⟩
  have HL0 := Lib.hid hL0
  clear hL0
  rw [HL0.out] at hcp
  have hll : L0.length = C := by rw [← HL0.out]; simp; omega
  have HLL := Lib.hid hll
  clear hll
  go_enter Try.func22, Try.ntmps22
  go_wp2_with fail
  have HB0 : Hid (Below w.heap.size w ((w.alloc (Obj.cells #[.int .i64 seq, .slice A d.length cap] 41)).alloc (Obj.cells (cellsOf L0).toArray 5))) := ((Below.refl _ _).alloc (Nat.le_refl _) _).alloc (by simp) _
  have HBX := Lib.hid (heap_alloc2_old w (Obj.cells #[.int .i64 seq, .slice A d.length cap] 41) (Obj.cells (cellsOf L0).toArray 5))
  have HRW := Lib.hid (heap_alloc2_new w (Obj.cells #[.int .i64 seq, .slice A d.length cap] 41) (Obj.cells (cellsOf L0).toArray 5))
  have HSZ : Hid (((w.alloc (Obj.cells #[.int .i64 seq, .slice A d.length cap] 41)).alloc (Obj.cells (cellsOf L0).toArray 5)).heap.size = w.heap.size + 2) := by
    show _ = _
    simp
  generalize ((w.alloc (Obj.cells #[.int .i64 seq, .slice A d.length cap] 41)).alloc (Obj.cells (cellsOf L0).toArray 5)) = w0 at HB0 HBX HRW HSZ ⊢
  have hc0 : w0.cell? ⟨w.heap.size, 0, none⟩ = some (.int .i64 seq) := block_cell HBX.out 0
  have hc1 : w0.cell? ⟨w.heap.size, 1, none⟩ = some (.slice A d.length cap) := block_cell HBX.out 1
  clear hmk hcp
  -- the length
  have HP1 : Hid (∀ c : Nat, ∀ W : World, W.heap = w0.heap → Calls Try.prog 40 #[.slice (some ⟨w.heap.size + 1, 4, none⟩) 4 c, .int .u64 (d.length : Nat)] W fun e w' => e = .returned (.tuple #[]) ∧ Wrote W w' (w.heap.size + 1) (overB L0 4 4 d.length 0)) :=
    fun c W hW => put_any _ 4 c 4 d.length _ W (by omega) (by omega) (by omega) (by have := HLL.out; omega) (by rw [hW]; exact HRW.out)
  have HL1 := Lib.hid (overB_length (L := L0) (off := 4) (n := 4) (v := d.length) (m := 0) (by have := HLL.out; omega) (by omega))
  obtain ⟨L1, HE1⟩ : ∃ L1, Hid (overB L0 4 4 d.length 0 = L1) := ⟨_, rfl⟩
  rw [HE1.out] at HP1 HL1
  go_region_held3 (fun w' => w'.cell? ⟨w.heap.size, 1, none⟩ = some (.slice A d.length cap)) (first | go_keep | exact (hw1.cell (by simp) (by rw [show w0.drew.heap.size = w0.heap.size from rfl, HSZ.out]; simp)).trans hc1) ((go_at_call 40; with_reducible refine (HP1.out _ w0.drew rfl).mono ?_; rintro e w1 ⟨rfl, hw1⟩))
  have HW1 := Lib.hid hw1
  clear hw1 HP1
  have hc2 : w1.cell? ⟨w.heap.size, 0, none⟩ = some (.int .i64 seq) := (HW1.out.cell (p := ⟨w.heap.size, 0, none⟩) (by simp) (by rw [show w0.drew.heap.size = w0.heap.size from rfl, HSZ.out]; simp)).trans hc0
  have hc3 : w1.cell? ⟨w.heap.size, 1, none⟩ = some (.slice A d.length cap) := (HW1.out.cell (p := ⟨w.heap.size, 1, none⟩) (by simp) (by rw [show w0.drew.heap.size = w0.heap.size from rfl, HSZ.out]; simp)).trans hc1
  have HZ1 : Hid (w1.heap.size = w.heap.size + 2) := HW1.out.size.trans HSZ.out
  have HB1 : Hid (Below w.heap.size w w1) := HB0.out.drew.trans (HW1.out.below (B := w.heap.size) (by omega))
  clear hc0 hc1
  -- the number
  have HP2 : Hid (∀ c : Nat, ∀ W : World, W.heap = w1.heap → Calls Try.prog 40 #[.slice (some ⟨w.heap.size + 1, 8, none⟩) 8 c, .int .u64 (seq : Nat)] W fun e w' => e = .returned (.tuple #[]) ∧ Wrote W w' (w.heap.size + 1) (overB L1 8 8 seq 0)) :=
    fun c W hW => put_any _ 8 c 8 seq _ W (by omega) (by omega) (by omega) (by have := HLL.out; have := HL1.out; omega) (by rw [hW]; exact HW1.out.block)
  have HL2 := Lib.hid (overB_length (L := L1) (off := 8) (n := 8) (v := seq) (m := 0) (by have := HLL.out; have := HL1.out; omega) (by omega))
  obtain ⟨L2, HE2⟩ : ∃ L2, Hid (overB L1 8 8 seq 0 = L2) := ⟨_, rfl⟩
  rw [HE2.out] at HP2 HL2
  go_wp2_with fail
  go_region_held3 (fun w' => w'.cell? ⟨w.heap.size, 0, none⟩ = some (.int .i64 seq)) (first | go_keep | exact (hw2.cell (by simp) (by rw [show w1.drew.heap.size = w1.heap.size from rfl, HZ1.out]; simp)).trans hc2) ((go_at_call 40; with_reducible refine (HP2.out _ w1.drew rfl).mono ?_; rintro e w2 ⟨rfl, hw2⟩))
  have HW2 := Lib.hid hw2
  clear hw2 HP2
  have hc4 : w2.cell? ⟨w.heap.size, 1, none⟩ = some (.slice A d.length cap) := (HW2.out.cell (p := ⟨w.heap.size, 1, none⟩) (by simp) (by rw [show w1.drew.heap.size = w1.heap.size from rfl, HZ1.out]; simp)).trans hc3
  have HZ2 : Hid (w2.heap.size = w.heap.size + 2) := HW2.out.size.trans HZ1.out
  have HB2 : Hid (Below w.heap.size w w2) := HB1.out.drew.trans (HW2.out.below (B := w.heap.size) (by omega))
  clear hc2 hc3
  go_wp2_with fail
  -- the sum
  have HP3 : Hid (Calls Try.prog 15 #[.slice (some ⟨w2.heap.size, 0, none⟩) 2 2] (w2.alloc (.cells #[.slice (some ⟨w.heap.size + 1, 4, none⟩) 12 (C - 4), .slice A d.length cap] 28)).drew fun e w' => e = .returned (.int .u32 (S : Nat)) ∧ Below w2.heap.size w2 w') := by
    have hh : BytesIn w2.drew (some ⟨w.heap.size + 1, 4, none⟩) (C - 4) (headB seq d) := by
      have e1 : L2.take 16 = L1.take 8 ++ numB 8 seq := by rw [← HE2.out]; exact overB_take (L := L1) (off := 8) (n := 8) (v := seq) (by have := HLL.out; have := HL1.out; omega)
      have e2 : L1.take 8 = L0.take 4 ++ numB 4 d.length := by rw [← HE1.out]; exact overB_take (L := L0) (off := 4) (n := 4) (v := d.length) (by have := HLL.out; omega)
      have e3 : L0.take 4 = [89, 82, 69, 67] := by rw [← HL0.out]; rfl
      have hbl : (headB seq d).length = 12 := by simp [headB, numB_length]
      refine ⟨headB_bytes seq d, bytesAt_sub HW2.out.block ?_, by rw [hbl]; omega, by rw [hbl]; omega, fun h => by cases h⟩
      rw [hbl, show (L2.drop 4).take 12 = (L2.take 16).drop 4 by rw [List.drop_take], e1, e2, e3]
      rfl
    have h := sum_two (some ⟨w.heap.size + 1, 4, none⟩) (C - 4) (headB seq d) A cap d w2.drew hh (g.below HB2.out.drew)
    rw [HS.out, headB_length] at h
    refine (show Calls Try.prog 15 #[.slice (some ⟨w2.heap.size, 0, none⟩) 2 2] (w2.alloc (.cells #[.slice (some ⟨w.heap.size + 1, 4, none⟩) 12 (C - 4), .slice A d.length cap] 28)).drew _ from h).mono ?_
    rintro e w' ⟨rfl, hb⟩
    exact ⟨rfl, hb.os, hb.tape, hb.output, hb.size, hb.block⟩
  have HP4 : Hid (∀ c : Nat, ∀ W : World, Below w2.heap.size w2 W → Calls Try.prog 40 #[.slice (some ⟨w.heap.size + 1, 16, none⟩) 4 c, .int .u64 (S : Nat)] W fun e w' => e = .returned (.tuple #[]) ∧ Wrote W w' (w.heap.size + 1) (overB L2 16 4 S 0)) :=
    fun c W hW => put_any _ 16 c 4 S _ W (by omega) (by omega) (by omega) (by have := HLL.out; have := HL1.out; have := HL2.out; omega)
      (by rw [hW.block (w.heap.size + 1) (by rw [HZ2.out]; omega)]; exact HW2.out.block)
  have HL3 := Lib.hid (overB_length (L := L2) (off := 16) (n := 4) (v := S) (m := 0) (by have := HLL.out; have := HL1.out; have := HL2.out; omega) (by omega))
  obtain ⟨L3, HE3⟩ : ∃ L3, Hid (overB L2 16 4 S 0 = L3) := ⟨_, rfl⟩
  rw [HE3.out] at HP4 HL3
  go_region_held3 (fun w' => w'.cell? ⟨w.heap.size, 1, none⟩ = some (.slice A d.length cap))
    (first
      | go_keep
      | exact (hb3.cell (p := ⟨w.heap.size, 1, none⟩) (by rw [HZ2.out]; simp)).trans hc4
      | exact (hw4.cell (p := ⟨w.heap.size, 1, none⟩) (by simp) (by have := hb3.size; rw [HZ2.out] at this; simp; omega)).trans ((hb3.cell (p := ⟨w.heap.size, 1, none⟩) (by rw [HZ2.out]; simp)).trans hc4))
    (first
      | (go_at_call 15; with_reducible refine HP3.out.mono ?_; rintro e w3 ⟨rfl, hb3⟩)
      | (go_at_call 40; with_reducible refine (HP4.out _ _ hb3).mono ?_; rintro e w4 ⟨rfl, hw4⟩))
  have hw5 : Hid (Below w.heap.size w w4) := HB2.out.trans ((hb3.mono (by rw [HZ2.out]; omega)).trans (hw4.below (by omega)))
  have hc5 : w4.cell? ⟨w.heap.size, 1, none⟩ = some (.slice A d.length cap) :=
    (hw4.cell (p := ⟨w.heap.size, 1, none⟩) (by simp) (by have := hb3.size; rw [HZ2.out] at this; simp; omega)).trans ((hb3.cell (p := ⟨w.heap.size, 1, none⟩) (by rw [HZ2.out]; simp)).trans hc4)
  have hz5 : w.heap.size + 2 ≤ w4.heap.size := by have := hb3.size; rw [HZ2.out] at this; rw [hw4.size]; exact this
  have HB5 := Lib.hid hw4.block
  have hl3 : Hid (L3.length = C) := by
    show L3.length = C
    rw [HL3.out, HL2.out, HL1.out, HLL.out]
  clear hw4 hb3 HP4 hc4 HW2 HW1
  obtain ⟨i0, hi, hz0, hz1, hz2⟩ := info_parts infoU8
  have g5 := g.below hw5.out
  go_wp2_with (at_builtin; refine wpList_append_fits_any _ rfl _ _ 28 rfl w.heap.size 5 i0 1 Try.underlying28 hi hz1 (w.heap.size + 1) 20 C (cellsOf (L3.take 20)) rfl (own_row HB5.out (by omega) hl3.out (by have := HC.out; unfold maxLen; omega) (by omega)) A d.length cap (cellsOf d) rfl ?c1 ?c2 ?c3 ?c4 ?c5 ?_)
  case c1 => rw [cellsOf_length]; omega
  case c2 => intro h; have h1 := g5.nil_ h; exact ⟨by have := g5.cap; omega, h1⟩
  case c3 => exact news_any g5.at_
  case c4 => exact cellsOf_one d
  case c5 => rw [← HC.out]; exact Nat.le_refl _
  intro w6 hown hgrow
  have e0 : L3.take 20 = L2.take 16 ++ numB 4 S := by rw [← HE3.out]; exact overB_take (L := L2) (off := 16) (n := 4) (v := S) (by have := HLL.out; have := HL1.out; have := HL2.out; omega)
  have e1 : L2.take 16 = L1.take 8 ++ numB 8 seq := by rw [← HE2.out]; exact overB_take (L := L1) (off := 8) (n := 8) (v := seq) (by have := HLL.out; have := HL1.out; omega)
  have e2 : L1.take 8 = L0.take 4 ++ numB 4 d.length := by rw [← HE1.out]; exact overB_take (L := L0) (off := 4) (n := 4) (v := d.length) (by have := HLL.out; omega)
  have e3 : L0.take 4 = [89, 82, 69, 67] := by rw [← HL0.out]; rfl
  have ef : L3.take 20 ++ d = frameB seq d := by
    rw [e0, e1, e2, e3, ← HS.out]
    simp [frameB, headB]
  have efl : (frameB seq d).length = 20 + d.length := by simp [frameB, headB, numB_length]; omega
  rw [cellsOf_append, ef] at hown
  have HOWN : Hid (w6.ownsRow w.heap.size 5 1 (.slice (some ⟨w.heap.size + 1, 0, none⟩) (20 + d.length) C) (frameB seq d).length (cellsOf (frameB seq d))) := by rw [efl]; exact hown
  have HB6 : Hid (Below w.heap.size w w6) := hw5.out.grown hgrow (by omega) (fun k hk => by cases hk; omega)
  clear hown hgrow e0 e1 e2 e3 ef efl
  go_wp2_with fail
  go_ret2
  exact ⟨_, rfl, HOWN.out, HB6.out⟩
end Go.Proofs.Ythmmhbeafbdglaa
