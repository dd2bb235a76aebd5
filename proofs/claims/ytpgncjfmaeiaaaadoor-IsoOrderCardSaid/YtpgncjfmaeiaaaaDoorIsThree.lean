/- Equal, Like, Iso. Conditions: no text, no row of kids of a right graph too long. -/
import Derived.Test.YtpgncjfmaeiaaaaDoorIsTell
set_option linter.unusedVariables false
namespace Go.Proofs.YtpgncjfmaeiaaaaDoor.Is
open Go.RowKit
theorem two_graphs (w : World) (a b : Gv) : Hid (Below w.heap.size w ((w.alloc (.cells #[.slice a.A a.ns.length a.c, .int .i64 a.root] 24)).alloc (.cells #[.slice b.A b.ns.length b.c, .int .i64 b.root] 24))) ∧ ((w.alloc (.cells #[.slice a.A a.ns.length a.c, .int .i64 a.root] 24)).alloc (.cells #[.slice b.A b.ns.length b.c, .int .i64 b.root] 24)).cell? ⟨w.heap.size, 0, none⟩ = some (.slice a.A a.ns.length a.c) ∧ ((w.alloc (.cells #[.slice a.A a.ns.length a.c, .int .i64 a.root] 24)).alloc (.cells #[.slice b.A b.ns.length b.c, .int .i64 b.root] 24)).cell? ⟨w.heap.size, 1, none⟩ = some (.int .i64 a.root) ∧ ((w.alloc (.cells #[.slice a.A a.ns.length a.c, .int .i64 a.root] 24)).alloc (.cells #[.slice b.A b.ns.length b.c, .int .i64 b.root] 24)).cell? ⟨w.heap.size + 1, 0, none⟩ = some (.slice b.A b.ns.length b.c) ∧ ((w.alloc (.cells #[.slice a.A a.ns.length a.c, .int .i64 a.root] 24)).alloc (.cells #[.slice b.A b.ns.length b.c, .int .i64 b.root] 24)).cell? ⟨w.heap.size + 1, 1, none⟩ = some (.int .i64 b.root) := by
  have hs1 : (w.alloc (.cells #[.slice a.A a.ns.length a.c, .int .i64 a.root] 24)).heap.size = w.heap.size + 1 := by simp
  have h9 := heap_new (w.alloc (.cells #[.slice a.A a.ns.length a.c, .int .i64 a.root] 24)) #[.slice b.A b.ns.length b.c, .int .i64 b.root] 24
  rw [hs1] at h9
  have h8 := ((ext_world (w.alloc (.cells #[.slice a.A a.ns.length a.c, .int .i64 a.root] 24)) (.cells #[.slice b.A b.ns.length b.c, .int .i64 b.root] 24)).block w.heap.size (by simp)).trans (heap_new w _ _)
  exact ⟨(ext_world w _).alloc (by simp) _, bcell h8 0, bcell h8 1, bcell h9 0, bcell h9 1⟩
set_option maxRecDepth 100000 in
set_option maxHeartbeats 1600000 in
theorem equal_any (a b : Gv) (w : World) (E : Env w) (Ga : GrIn w a) (Gb : GrIn w b) (Sa : SmallG a.ns) (Sb : SmallG b.ns) : Calls Tryd.prog 9 #[a.val, b.val] w (TellPost (tellR a b false false) w) := by
  obtain ⟨BV, a0, a1, b0, b1⟩ := two_graphs w a b
  have TL : Hid (Calls Tryd.prog 20 #[.agg #[.slice a.A a.ns.length a.c, .int .i64 a.root], .agg #[.slice b.A b.ns.length b.c, .int .i64 b.root], .bool false, .bool false] ((w.alloc (.cells #[.slice a.A a.ns.length a.c, .int .i64 a.root] 24)).alloc (.cells #[.slice b.A b.ns.length b.c, .int .i64 b.root] 24)) (TellPost (tellR a b false false) ((w.alloc (.cells #[.slice a.A a.ns.length a.c, .int .i64 a.root] 24)).alloc (.cells #[.slice b.A b.ns.length b.c, .int .i64 b.root] 24)))) := tell_any a b false false _ (E.below BV.out) (Ga.below BV.out) (Gb.below BV.out) Sa Sb
  generalize tellR a b false false = r at TL ⊢
  unfold Gv.val
  clear E Ga Gb Sa Sb
  obtain ⟨r1, r2⟩ := r
  go_enter Tryd.func9, Tryd.ntmps9
  go_wp2_with (go_at_call 20; (with_reducible refine TL.out.mono ?_); rintro e w2 ⟨rfl, hb2⟩)
  exact bodyPost_ret (v := .tuple #[.bool r1, .int .i64 r2]) (by simp [results, Tryd.results9, go_sem]) rfl ⟨rfl, BV.out.trans (hb2.mono BV.out.size)⟩
set_option maxRecDepth 100000 in
set_option maxHeartbeats 1600000 in
theorem like_any (a b : Gv) (w : World) (E : Env w) (Ga : GrIn w a) (Gb : GrIn w b) (Sa : SmallG a.ns) (Sb : SmallG b.ns) : Calls Tryd.prog 11 #[a.val, b.val] w (TellPost (tellR a b false true) w) := by
  obtain ⟨BV, a0, a1, b0, b1⟩ := two_graphs w a b
  have TL : Hid (Calls Tryd.prog 20 #[.agg #[.slice a.A a.ns.length a.c, .int .i64 a.root], .agg #[.slice b.A b.ns.length b.c, .int .i64 b.root], .bool false, .bool true] ((w.alloc (.cells #[.slice a.A a.ns.length a.c, .int .i64 a.root] 24)).alloc (.cells #[.slice b.A b.ns.length b.c, .int .i64 b.root] 24)) (TellPost (tellR a b false true) ((w.alloc (.cells #[.slice a.A a.ns.length a.c, .int .i64 a.root] 24)).alloc (.cells #[.slice b.A b.ns.length b.c, .int .i64 b.root] 24)))) := tell_any a b false true _ (E.below BV.out) (Ga.below BV.out) (Gb.below BV.out) Sa Sb
  generalize tellR a b false true = r at TL ⊢
  unfold Gv.val
  clear E Ga Gb Sa Sb
  obtain ⟨r1, r2⟩ := r
  go_enter Tryd.func11, Tryd.ntmps11
  go_wp2_with (go_at_call 20; (with_reducible refine TL.out.mono ?_); rintro e w2 ⟨rfl, hb2⟩)
  exact bodyPost_ret (v := .tuple #[.bool r1, .int .i64 r2]) (by simp [results, Tryd.results11, go_sem]) rfl ⟨rfl, BV.out.trans (hb2.mono BV.out.size)⟩
set_option maxRecDepth 100000 in
set_option maxHeartbeats 1600000 in
theorem iso_any (a b : Gv) (w : World) (E : Env w) (Ga : GrIn w a) (Gb : GrIn w b) (Sa : SmallG a.ns) (Sb : SmallG b.ns) : Calls Tryd.prog 13 #[a.val, b.val] w (TellPost (tellR a b true true) w) := by
  obtain ⟨BV, a0, a1, b0, b1⟩ := two_graphs w a b
  have TL : Hid (Calls Tryd.prog 20 #[.agg #[.slice a.A a.ns.length a.c, .int .i64 a.root], .agg #[.slice b.A b.ns.length b.c, .int .i64 b.root], .bool true, .bool true] ((w.alloc (.cells #[.slice a.A a.ns.length a.c, .int .i64 a.root] 24)).alloc (.cells #[.slice b.A b.ns.length b.c, .int .i64 b.root] 24)) (TellPost (tellR a b true true) ((w.alloc (.cells #[.slice a.A a.ns.length a.c, .int .i64 a.root] 24)).alloc (.cells #[.slice b.A b.ns.length b.c, .int .i64 b.root] 24)))) := tell_any a b true true _ (E.below BV.out) (Ga.below BV.out) (Gb.below BV.out) Sa Sb
  generalize tellR a b true true = r at TL ⊢
  unfold Gv.val
  clear E Ga Gb Sa Sb
  obtain ⟨r1, r2⟩ := r
  go_enter Tryd.func13, Tryd.ntmps13
  go_wp2_with (go_at_call 20; (with_reducible refine TL.out.mono ?_); rintro e w2 ⟨rfl, hb2⟩)
  exact bodyPost_ret (v := .tuple #[.bool r1, .int .i64 r2]) (by simp [results, Tryd.results13, go_sem]) rfl ⟨rfl, BV.out.trans (hb2.mono BV.out.size)⟩
end Go.Proofs.YtpgncjfmaeiaaaaDoor.Is
