/- The law 'BlockTakes': the text of any rows' block, or its fault, is the document's. Conditions: a text is no longer than the model's bound. -/
import Derived.Test.YtnggbhpnpomfjaaBlRTake
set_option linter.unusedVariables false
namespace Go.Proofs.Ytnggbhpnpomfjaa
open Go.RowKit
theorem theirs_any (f : Bool) (c : Int) (w : World) : Calls Try.prog 15 #[.agg #[.bool f, .int .i64 c]] w fun e w' => e = .returned (.agg #[.bool f, .int .i64 c]) ∧ Below w.heap.size w w' := by
  have x0 := bl_block_cell (two_first w #[.bool f, .int .i64 c] 28 (.cells #[.bool false, .int .i64 0] 35)) 0
  have x1 := bl_block_cell (two_first w #[.bool f, .int .i64 c] 28 (.cells #[.bool false, .int .i64 0] 35)) 1
  have hh : ((w.alloc (.cells #[.bool f, .int .i64 c] 28)).alloc (.cells #[.bool false, .int .i64 0] 35)).heap[w.heap.size + 1]? = some (.cells #[.bool false, .int .i64 0] 35 (0, 0)) := by
    have := heap_alloc_new (w.alloc (.cells #[.bool f, .int .i64 c] 28)) (.cells #[.bool false, .int .i64 0] 35)
    simpa using this
  have HH := Lib.hid hh
  have hz := setRow_heap _ _ _ #[Value.bool f, Value.int .i64 c] _ _ hh
  have z0 := bl_block_cell hz 0
  have z1 := bl_block_cell hz 1
  clear hh hz
  go_enter Try.func15, Try.ntmps15
  go_wp2_with (refine wpList_store_row rfl 35 _ _ rfl (w.heap.size + 1) #[.bool f, .int .i64 c] rfl rfl 35 _ HH.out (by kernel_rfl) rfl (style_one _ _) ?_)
  refine bodyPost_ret (v := .agg #[.bool f, .int .i64 c]) (by simp [results, Try.results15, go_sem, z0, z1]) rfl ⟨rfl, ?_⟩
  exact (((Below.refl _ _).alloc (Nat.le_refl _) _).alloc (by simp) _).trans (bl_setRow_below _ (by omega) _)
theorem ours_any (f : Bool) (c : Int) (w : World) : Calls Try.prog 19 #[.agg #[.bool f, .int .i64 c]] w fun e w' => e = .returned (.agg #[.bool f, .int .i64 c]) ∧ Below w.heap.size w w' := by
  have x0 := bl_block_cell (two_first w #[.bool f, .int .i64 c] 35 (.cells #[.bool false, .int .i64 0] 28)) 0
  have x1 := bl_block_cell (two_first w #[.bool f, .int .i64 c] 35 (.cells #[.bool false, .int .i64 0] 28)) 1
  have hh : ((w.alloc (.cells #[.bool f, .int .i64 c] 35)).alloc (.cells #[.bool false, .int .i64 0] 28)).heap[w.heap.size + 1]? = some (.cells #[.bool false, .int .i64 0] 28 (0, 0)) := by
    have := heap_alloc_new (w.alloc (.cells #[.bool f, .int .i64 c] 35)) (.cells #[.bool false, .int .i64 0] 28)
    simpa using this
  have HH := Lib.hid hh
  have hz := setRow_heap _ _ _ #[Value.bool f, Value.int .i64 c] _ _ hh
  have z0 := bl_block_cell hz 0
  have z1 := bl_block_cell hz 1
  clear hh hz
  go_enter Try.func19, Try.ntmps19
  go_wp2_with (refine wpList_store_row rfl 28 _ _ rfl (w.heap.size + 1) #[.bool f, .int .i64 c] rfl rfl 28 _ HH.out (by kernel_rfl) rfl (style_one _ _) ?_)
  refine bodyPost_ret (v := .agg #[.bool f, .int .i64 c]) (by simp [results, Try.results19, go_sem, z0, z1]) rfl ⟨rfl, ?_⟩
  exact (((Below.refl _ _).alloc (Nat.le_refl _) _).alloc (by simp) _).trans (bl_setRow_below _ (by omega) _)
theorem takeV_form (rs : List Rw) (col : Int) (f : Bool) (c : Int) : ∃ (s : ByteArray) (n x y : Int), takeV rs col f c = .tuple #[.string s, .int .i64 n, .agg #[.int .i64 x, .int .i64 y]] := by
  unfold takeV
  split
  · exact ⟨_, 0, 9, _, rfl⟩
  · exact ⟨_, _, 0, 0, rfl⟩
set_option maxRecDepth 100000 in
set_option maxHeartbeats 1600000 in
theorem law_BlockTakes (w : World) (A : Option Addr) (cp : Nat) (rs : List Rw) (g : RowsIn w A cp rs) (hz : ∀ r ∈ rs, r.txt.size ≤ 140737488355328) (col : Int) (hcol : -9223372036854775808 ≤ col ∧ col ≤ 9223372036854775807) (f : Bool) (c : Int) (hb : True) :
    Calls Try.prog 4 #[.slice A rs.length cp, .int .i64 col, .agg #[.bool f, .int .i64 c]] w (LawPost w) := by
  have HK0 := Lib.hid (Kept.first w 28 #[.bool f, .int .i64 c])
  have WD := Lib.hid (wide_any A cp rs _ (g.below HK0.out.2) hz)
  have AL := Lib.hid (fun W => alive_any W)
  have G := Lib.hid g
  clear g hz
  cases hm : wideB rs with
  | true =>
    rw [hm] at WD
    clear hm
    go_enter Try.func4, Try.ntmps4
    go_wp2_with fail
    refine WD.out.mono ?_
    rintro e w1 ⟨rfl, hb1⟩
    have HA1 := Lib.hid (HK0.out.below hb1)
    clear hb1
    go_wp2_with fail
    refine (AL.out _).mono ?_
    rintro e w4 ⟨rfl, hb4⟩
    have HA4 := Lib.hid (HA1.out.below hb4)
    clear hb4
    go_wp2_with fail
    go_ret
    exact ⟨rfl, HA4.out.2⟩
  | false =>
    rw [hm] at WD
    obtain ⟨h1, h2⟩ := wide_false hm
    have T1 := Lib.hid (fun W (hW : Below w.heap.size w W) => take_any A cp rs col f c W (G.out.below hW) (by omega) (by omega))
    have T2 := Lib.hid (fun W (hW : Below w.heap.size w W) => rtake_any A cp rs col f c W (G.out.below hW) (by omega) (by omega))
    have TH := Lib.hid (fun W => theirs_any f c W)
    obtain ⟨s, n, x, y, hv⟩ := takeV_form rs col f c
    rw [hv] at T1 T2
    have q1 := strEq s
    have q2 : (n == n) = true := beq_self_eq_true _
    have q3 : (x == x) = true := beq_self_eq_true _
    have q4 : (y == y) = true := beq_self_eq_true _
    clear hm hv
    go_enter Try.func4, Try.ntmps4
    go_wp2_with fail
    refine WD.out.mono ?_
    rintro e w1 ⟨rfl, hb1⟩
    have HA1 := Lib.hid (HK0.out.below hb1)
    have p0 := HA1.out.cell 0
    have p1 := HA1.out.cell 1
    clear hb1
    go_wp2_with fail
    refine (TH.out _).mono ?_
    rintro e w2 ⟨rfl, hb2⟩
    have HA2 := Lib.hid (HA1.out.below hb2)
    clear hb2 p0 p1
    go_wp2_with fail
    refine (T1.out _ HA2.out.2).mono ?_
    rintro e w3 ⟨rfl, hb3⟩
    have HA3 := Lib.hid (HA2.out.below hb3)
    have HL0 := Lib.hid (Kept.first w3 32 #[.int .i64 0, .int .i64 0])
    have HL1 := Lib.hid (HL0.out.set #[.int .i64 x, .int .i64 y])
    have HA4 := Lib.hid (HA3.out.below HL1.out.2)
    have p0 := HA4.out.cell 0
    have p1 := HA4.out.cell 1
    clear hb3
    go_wp2_with (refine wpList_store_row rfl 32 _ _ rfl w3.heap.size #[.int .i64 x, .int .i64 y] rfl rfl 32 _ HL0.out.1 (by kernel_rfl) rfl (two_one _ _) ?_)
    generalize ((w3.alloc _).setRow _ _) = w4 at HL1 HA4 p0 p1 ⊢
    refine (T2.out _ HA4.out.2).mono ?_
    rintro e w5 ⟨rfl, hb5⟩
    have HA5 := Lib.hid (HA4.out.below hb5)
    have HL5 := Lib.hid (HL1.out.below hb5)
    have HM0 := Lib.hid (Kept.first w5 32 #[.int .i64 0, .int .i64 0])
    have HM1 := Lib.hid (HM0.out.set #[.int .i64 x, .int .i64 y])
    have HA6 := Lib.hid (HA5.out.below HM1.out.2)
    have HL6 := Lib.hid (HL5.out.below HM1.out.2)
    have p2 := HL6.out.cell 0
    have p3 := HL6.out.cell 1
    have p4 := HM1.out.cell 0
    have p5 := HM1.out.cell 1
    clear hb5 p0 p1
    go_wp2_with (refine wpList_store_row rfl 32 _ _ rfl w5.heap.size #[.int .i64 x, .int .i64 y] rfl rfl 32 _ HM0.out.1 (by kernel_rfl) rfl (two_one _ _) ?_)
    refine (AL.out _).mono ?_
    rintro e w7 ⟨rfl, hb7⟩
    have HA7 := Lib.hid (HA6.out.below hb7)
    clear hb7
    go_wp2_with fail
    go_ret
    exact ⟨rfl, HA7.out.2⟩
open Go.ChangeShapes Go.WideShapes Go.ChangeAt in
/-- a style that came in -/
theorem open_style {H : Type} {enc : TypeId × Value → H} {w W : World} {b0 base : Nat} {spare : Nat → Bool} {held : Bool} {v : Value} {d : DataW H} {ps : List MemPlace} (hval : Value.okWide Try.prog W .any b0 28 v) (h : DataW.Trod enc Try.prog w base spare held 28 v d ps) :
    ∃ (f : Bool) (c : Int), v = .agg #[.bool f, .int .i64 c] ∧ True := by
  obtain ⟨cs, rfl, hcs⟩ := okWide_struct Try.underlying28 hval
  obtain ⟨fuel, hf⟩ := h
  have e : (Value.agg cs).cells = cs := by simp [Value.cells]
  rw [e] at hf
  have c2 : Try.prog.cellsOf 28 = 2 := by kernel_rfl
  have cb : Try.prog.cellsOf 4 = 1 := by kernel_rfl
  have ci : Try.prog.cellsOf 3 = 1 := by kernel_rfl
  rw [c2] at hcs
  obtain ⟨f0, f1, ht, t0, t1, o0, o1⟩ : ∃ f0 f1 : Field, Try.prog.underlying 28 = some (.struct #[f0, f1]) ∧ f0.type = 4 ∧ f1.type = 3 ∧ f0.offset = 0 ∧ f1.offset = 1 := ⟨_, _, Try.underlying28, rfl, rfl, rfl, rfl⟩
  obtain ⟨xs, k, hk, hxy, _, hxl, hff⟩ := DataW.trod_struct ht hf
  obtain ⟨v0, v1, rfl⟩ : ∃ v0 v1, cs = #[v0, v1] := by
    match cs, hcs with
    | ⟨[v0, v1]⟩, _ => exact ⟨v0, v1, rfl⟩
  match xs, hxl with
  | [y0, y1], _ =>
    have g0 := hff 0 f0 rfl
    have g1 := hff 1 f1 rfl
    simp [o0, o1, t0, t1, ci, cb] at g0 g1
    obtain ⟨b, e0, _⟩ := DataW.trod_bool Try.underlying4 g0
    obtain ⟨n, e1, _⟩ := DataW.trod_int Try.underlying3 g1
    simp only [List.cons.injEq, and_true] at e0 e1
    subst e0 e1
    exact ⟨b, n, rfl, trivial⟩
end Go.Proofs.Ytnggbhpnpomfjaa
