/- Walks: a queue that nobody made. Conditions: its 'ok' says no. -/
import Derived.Test.YtiaonfmdjipekaaLsAlive
set_option linter.unusedVariables false
namespace Go.Proofs.Ytiaonfmdjipekaa.Ls
open Go.RowKit Go.Maps
def NoQ (p : Value) (w : World) : Prop := ∀ V, Below w.heap.size w V → Calls Try.prog 25 #[p] V fun e w' => e = .returned (.bool false) ∧ V = w'
theorem noq_nil (w : World) : NoQ (.pointer none) w := fun V _ => ok_nil V
theorem noq_empty (q : Nat) (w : World) (h : w.cell? ⟨q, 1, none⟩ = some (.map none)) : NoQ (.pointer (some ⟨q, 0, none⟩)) w := fun V hb => ok_none q V (by rw [hb.cell (p := ⟨q, 1, none⟩) (block_lt_of_cell h)]; exact h)
set_option maxRecDepth 100000 in
theorem nlen_any (p : Value) (w : World) (h : NoQ p w) : Calls Try.prog 13 #[p] w fun e w' => e = .returned (.int .i64 0) ∧ w = w' := by
  have OK := Lib.hid (h w (Below.refl _ _))
  clear h
  go_enter Try.func13, Try.ntmps13
  go_wp2_with (go_at_call 25; (with_reducible refine OK.out.mono ?_); rintro e w1 ⟨rfl, rfl⟩)
  go_ret
  exact ⟨rfl, rfl⟩
set_option maxRecDepth 100000 in
theorem nuntil_any (p : Value) (w : World) (h : NoQ p w) (x : Int) : Calls Try.prog 12 #[p, .int .i64 x] w fun e w' => e = .returned (.tuple #[.int .i64 0, .bool false]) ∧ w = w' := by
  have OK := Lib.hid (h w (Below.refl _ _))
  clear h
  go_enter Try.func12, Try.ntmps12
  go_wp2_with (go_at_call 25; (with_reducible refine OK.out.mono ?_); rintro e w1 ⟨rfl, rfl⟩)
  go_ret2
  exact ⟨rfl, rfl⟩
set_option maxRecDepth 100000 in
theorem nfirst_any (p : Value) (w : World) (h : NoQ p w) : Calls Try.prog 20 #[p] w fun e w' => e = .returned (.tuple #[.int .i64 0, .int .i64 0, .bool false]) ∧ w = w' := by
  have OK := Lib.hid (h w (Below.refl _ _))
  clear h
  go_enter Try.func20, Try.ntmps20
  go_wp2_with (go_at_call 25; (with_reducible refine OK.out.mono ?_); rintro e w1 ⟨rfl, rfl⟩)
  go_ret3
  exact ⟨rfl, rfl⟩
set_option maxRecDepth 100000 in
theorem nput_any (p : Value) (w : World) (h : NoQ p w) (x t : Int) : Calls Try.prog 17 #[p, .int .i64 x, .int .i64 t] w fun e w' => e = .returned (.int .i64 2) ∧ w = w' := by
  have OK := Lib.hid (h w (Below.refl _ _))
  clear h
  go_enter Try.func17, Try.ntmps17
  go_wp2_with (go_at_call 25; (with_reducible refine OK.out.mono ?_); rintro e w1 ⟨rfl, rfl⟩)
  go_ret
  exact ⟨rfl, rfl⟩
set_option maxRecDepth 100000 in
theorem ndrop_any (p : Value) (w : World) (h : NoQ p w) (x : Int) : Calls Try.prog 14 #[p, .int .i64 x] w fun e w' => e = .returned (.int .i64 2) ∧ w = w' := by
  have OK := Lib.hid (h w (Below.refl _ _))
  clear h
  go_enter Try.func14, Try.ntmps14
  go_wp2_with (go_at_call 25; (with_reducible refine OK.out.mono ?_); rintro e w1 ⟨rfl, rfl⟩)
  go_ret
  exact ⟨rfl, rfl⟩
set_option maxRecDepth 100000 in
theorem ndue_any (p : Value) (w : World) (h : NoQ p w) (x : Int) : Calls Try.prog 15 #[p, .int .i64 x] w fun e w' => e = .returned (.slice none 0 0) ∧ w = w' := by
  have FI := Lib.hid (nfirst_any p w h)
  clear h
  go_enter Try.func15, Try.ntmps15
  go_wp2_with (go_at_call 20; (with_reducible refine FI.out.mono ?_); rintro e w1 ⟨rfl, rfl⟩)
  go_loopw [5, 8] (fun u v wr => u = .slice none 0 0 ∧ v = .bool false ∧ wr = w) (fun _ _ _ => 0)
  case atStart => exact ⟨rfl, rfl, rfl⟩
  case round =>
    obtain ⟨rfl, rfl, rfl⟩ := hrel
    go_wp2_with fail
    go_ret
    exact ⟨rfl, rfl⟩
set_option maxRecDepth 100000 in
theorem nall_any (p : Value) (w : World) (h : NoQ p w) : Calls Try.prog 18 #[p] w fun e w' => e = .returned (.slice none 0 0) ∧ w = w' := by
  have OK := Lib.hid (h w (Below.refl _ _))
  clear h
  go_enter Try.func18, Try.ntmps18
  go_wp2_with (go_at_call 25; (with_reducible refine OK.out.mono ?_); rintro e w1 ⟨rfl, rfl⟩)
  go_ret
  exact ⟨rfl, rfl⟩
end Go.Proofs.Ytiaonfmdjipekaa.Ls
