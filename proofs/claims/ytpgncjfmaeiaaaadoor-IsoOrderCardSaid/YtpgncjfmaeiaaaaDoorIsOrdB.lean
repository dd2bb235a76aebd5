/- The places of a graph in order: graph.walk, graph.Order. Conditions: no text, no row of kids of a right graph too long. -/
import Derived.Test.YtpgncjfmaeiaaaaDoorIsOrd
set_option linter.unusedVariables false
namespace Go.Proofs.YtpgncjfmaeiaaaaDoor.Is
open Go.RowKit
theorem way_all (w0 : World) (B p U : Nat) (g : Gv) (G : GrIn w0 g) (R : rightN g = true) (hS : ∀ m ∈ g.ns, m.kids.length ≤ 1000000) (hp0 : w0.heap.size ≤ p) (hU0 : w0.heap.size ≤ U) : ∀ N, WaySpec w0 B p U g N
  | 0 => fun W met k deep _ _ _ _ hmu => absurd hmu (Nat.not_lt_zero _)
  | N + 1 => way_step w0 B p U g N G R hS hp0 hU0 (way_all w0 B p U g G R hS hp0 hU0 N)
theorem madeBools (n : Nat) : madeCells #[.bool false] n = (flg n []).toArray := by
  apply Array.ext
  · simp [size_madeCells, flg]
  · intro i h1 h2
    have hi : i < n := by simpa [size_madeCells] using h1
    simp [madeCells, flg, Nat.mod_one]
theorem infoBool : (Tryd.prog.info? 4).map (fun i => (i.zero, i.size, i.bytes)) = some (some (.bool false), 1, 1) := by kernel_rfl
theorem mk_flags (n : Nat) (hn : n ≤ 1000000) (w : World) : ∃ U w', (Instr.makeSlice 61 (.int .i64 (n : Int)) (.int .i64 (n : Int))).run Tryd.prog w = .ok (.slice (some ⟨U, 0, none⟩) n n) w' ∧ w'.heap[U]? = some (.cells (flg n []).toArray 4 (0, 0)) ∧ Below w.heap.size w w' ∧ U = w.heap.size := by
  obtain ⟨i0, hi, hz0, hz1, hz2⟩ := info_parts infoBool
  have h := run_make (P := Tryd.prog) w 61 4 i0 (.bool false) Tryd.underlying61 hi hz0 .i64 .i64 (n : Int) (n : Int) (by omega) (by omega) (by rw [hz2]; omega) (by omega)
  rw [hz1] at h
  simp only [Value.cells, Int.toNat_natCast, Nat.mul_one, madeBools] at h
  exact ⟨_, _, h, heap_new _ _ _, ext_world _ _, rfl⟩
/-- what graph.walk hands: a walker that has gone -/
def WalkPost (g : Gv) (w : World) (e : Ending) (w' : World) : Prop := ∃ p U B, e = .returned (.pointer (some ⟨p, 0, none⟩)) ∧ WIn w' B p U g (toF (chD g) (g.ns.length * g.ns.length + 1) [] (g.root, g.root)).2 ∧ w.heap.size ≤ B ∧ Below w.heap.size w w'
set_option maxRecDepth 100000 in
set_option maxHeartbeats 3200000 in
theorem walk_any (g : Gv) (w : World) (G : GrIn w g) (R : rightN g = true) (hS : ∀ m ∈ g.ns, m.kids.length ≤ 1000000) :
    Calls Tryd.prog 29 #[g.val, .int .i64 g.root] w (WalkPost g w) := by
  have HN := Lib.hid (right_len R)
  have hnl : g.ns.length ≤ 1000000 := by have := HN.out.2.1; omega
  have V0 : Hid (Below w.heap.size w (w.alloc (.cells #[.slice g.A g.ns.length g.c, .int .i64 g.root] 24)).drew) := dr (ext_world w _) 1
  have z0 := bcell (heap_new w #[.slice g.A g.ns.length g.c, .int .i64 g.root] 24) 0
  have z1 := bcell (heap_new w #[.slice g.A g.ns.length g.c, .int .i64 g.root] 24) 1
  obtain ⟨U, w2, hmk, hfl, hb2, hU⟩ := mk_flags g.ns.length hnl (w.alloc (.cells #[.slice g.A g.ns.length g.c, .int .i64 g.root] 24)).drew
  have y0 : w2.cell? ⟨w.heap.size, 0, none⟩ = some (.slice g.A g.ns.length g.c) := (hb2.cell (p := ⟨w.heap.size, 0, none⟩) (block_lt_of_cell z0)).trans z0
  have y1 : w2.cell? ⟨w.heap.size, 1, none⟩ = some (.int .i64 g.root) := (hb2.cell (p := ⟨w.heap.size, 1, none⟩) (block_lt_of_cell z1)).trans z1
  have HW2 : Hid (Below w.heap.size w w2) := V0.out.trans (hb2.mono V0.out.size)
  have HG := Lib.hid (G.below V0.out)
  have HU := Lib.hid hU
  have HB2 := Lib.hid hb2
  have HR := Lib.hid R
  have HS := Lib.hid hS
  have HFL := Lib.hid hfl
  clear G R hS hfl hb2 hU
  have hUz : U < w2.heap.size := blt HFL.out
  have PW : Hid (WIn (w2.alloc (.cells #[.slice g.A g.ns.length g.c, .int .i64 g.root, .slice (some ⟨U, 0, none⟩) g.ns.length g.ns.length, .slice none 0 0, .int .i64 0] 63)) (w2.heap.size + 1) w2.heap.size U g []) :=
    ⟨⟨none, 0, 0, heap_new w2 _ _, World.ownsRow_nil _ _ _ _⟩, ((ext_world w2 _).block U hUz).trans HFL.out, by omega, by omega, by omega, by simp⟩
  have BW : Hid (Below (w.alloc (.cells #[.slice g.A g.ns.length g.c, .int .i64 g.root] 24)).drew.heap.size (w.alloc (.cells #[.slice g.A g.ns.length g.c, .int .i64 g.root] 24)).drew (w2.alloc (.cells #[.slice g.A g.ns.length g.c, .int .i64 g.root, .slice (some ⟨U, 0, none⟩) g.ns.length g.ns.length, .slice none 0 0, .int .i64 0] 63))) := HB2.out.alloc HB2.out.size _
  have WT : Hid (Calls Tryd.prog 40 #[.pointer (some ⟨w2.heap.size, 0, none⟩), .int .i64 g.root, .int .i64 1] (w2.alloc (.cells #[.slice g.A g.ns.length g.c, .int .i64 g.root, .slice (some ⟨U, 0, none⟩) g.ns.length g.ns.length, .slice none 0 0, .int .i64 0] 63)) (WayPost (w.alloc (.cells #[.slice g.A g.ns.length g.c, .int .i64 g.root] 24)).drew (w2.heap.size + 1) w2.heap.size U g (toF (chD g) (g.ns.length * g.ns.length + 1) [] (g.root, g.root)).2)) :=
    way_all _ (w2.heap.size + 1) w2.heap.size U g HG.out HR.out HS.out HB2.out.size (by rw [HU.out]; exact Nat.le_refl _) _ _ [] g.root 1 BW.out PW.out (OkM.nil _ _) (root_in HR.out HR.out) (by rw [mu_nil]; exact Nat.lt_succ_self _)
  have HBz : Hid (w.heap.size ≤ w2.heap.size + 1) := Nat.le_succ_of_le HW2.out.size
  unfold Gv.val
  go_enter Tryd.func29, Tryd.ntmps29
  go_wp2_with fail
  go_region_held3 (fun w' => w'.cell? ⟨w.heap.size, 0, none⟩ = some (.slice g.A g.ns.length g.c) ∧ w'.cell? ⟨w.heap.size, 1, none⟩ = some (.int .i64 g.root))
    (first | go_keep | exact ⟨y0, y1⟩ | exact ⟨((ext_world w2 _).cell (p := ⟨w.heap.size, 0, none⟩) (block_lt_of_cell y0)).trans y0, ((ext_world w2 _).cell (p := ⟨w.heap.size, 1, none⟩) (block_lt_of_cell y1)).trans y1⟩)
    (fail)
  go_wp2_with (go_at_call 40; (with_reducible refine WT.out.mono ?_); rintro e w5 ⟨rfl, hp5, hb5⟩)
  go_ret
  exact ⟨_, _, _, rfl, hp5, HBz.out, V0.out.trans (hb5.mono V0.out.size)⟩
/-- what graph.Order answers -/
def OrderPost (g : Gv) (w : World) (e : Ending) (w' : World) : Prop := ∃ (A : Option Addr) (c : Nat), e = .returned (.tuple #[.slice A (orderN g).length c, .int .i64 0]) ∧ Below w.heap.size w w'
set_option maxRecDepth 100000 in
set_option maxHeartbeats 3200000 in
theorem order_any (g : Gv) (w : World) (E : Env w) (G : GrIn w g) (R : rightN g = true) (hS : SmallG g.ns) : Calls Tryd.prog 18 #[g.val] w (OrderPost g w) := by
  have HN := right_len R
  have V0 : Hid (Below w.heap.size w (w.alloc (.cells #[.slice g.A g.ns.length g.c, .int .i64 g.root] 24))) := ext_world w _
  have z0 := bcell (heap_new w #[.slice g.A g.ns.length g.c, .int .i64 g.root] 24) 0
  have z1 := bcell (heap_new w #[.slice g.A g.ns.length g.c, .int .i64 g.root] 24) 1
  have RT : Hid (Calls Tryd.prog 15 #[.agg #[.slice g.A g.ns.length g.c, .int .i64 g.root]] (w.alloc (.cells #[.slice g.A g.ns.length g.c, .int .i64 g.root] 24)) (BoolPost true (w.alloc (.cells #[.slice g.A g.ns.length g.c, .int .i64 g.root] 24)))) := by
    have h9 := right_any g _ (E.below V0.out) (G.below V0.out) hS
    rw [R] at h9
    exact h9
  have WK : Hid (∀ V, Below w.heap.size w V → Calls Tryd.prog 29 #[.agg #[.slice g.A g.ns.length g.c, .int .i64 g.root], .int .i64 g.root] V (WalkPost g V)) := fun V hV => walk_any g V (G.below hV) R fun m hm => (hS HN.2.1 m hm).2
  have LN : Hid ((orderN g).length = (toF (chD g) (g.ns.length * g.ns.length + 1) [] (g.root, g.root)).2.length) := lefts_len _
  clear E G R hS HN
  unfold Gv.val
  go_enter Tryd.func18, Tryd.ntmps18
  go_wp2_with (first
    | (go_at_call 15; (with_reducible refine RT.out.mono ?_); rintro e w2 ⟨rfl, hb2⟩; have y0 := (hb2.cell (p := ⟨w.heap.size, 0, none⟩) (block_lt_of_cell z0)).trans z0; have y1 := (hb2.cell (p := ⟨w.heap.size, 1, none⟩) (block_lt_of_cell z1)).trans z1; have hv2 := Lib.hid (V0.out.trans (hb2.mono V0.out.size)))
    | (go_at_call 29; (with_reducible refine (WK.out _ hv2.out).mono ?_); rintro e w3 ⟨p, U, B, rfl, hw3, hB3, hb3⟩; obtain ⟨A, c, m, hx3, hr3⟩ := hw3.box; have c4 : w3.cell? ⟨p, 3, none⟩ = some (.slice A (toF (chD g) (g.ns.length * g.ns.length + 1) [] (g.root, g.root)).2.length c) := bcell hx3 3))
  exact bodyPost_ret (v := .tuple #[.slice A (toF (chD g) (g.ns.length * g.ns.length + 1) [] (g.root, g.root)).2.length c, .int .i64 0]) (by simp [results, Tryd.results18, go_sem]) rfl ⟨_, _, by rw [LN.out], hv2.out.trans (hb3.mono hv2.out.size)⟩
end Go.Proofs.YtpgncjfmaeiaaaaDoor.Is
