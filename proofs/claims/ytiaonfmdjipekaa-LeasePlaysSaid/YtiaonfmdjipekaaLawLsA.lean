/- Law: LeaseNobody. Conditions: none. -/
import Derived.Test.YtiaonfmdjipekaaLsNob
import Derived.Test.YtiaonfmdjipekaaLsOpen
set_option linter.unusedVariables false
namespace Go.Proofs.Ytiaonfmdjipekaa.Ls
open Go.RowKit Go.Maps
def LawPost (w : World) (e : Ending) (w' : World) : Prop := e = .returned (.bool true) ∧ Below w.heap.size w w'
theorem NoQ.below {p : Value} {w w' : World} (h : NoQ p w) (hb : Below w.heap.size w w') : NoQ p w' := fun V hV => h V (hb.trans (hV.mono hb.size))
structure NobSt (w : World) (x t : Int) (wr : World) : Prop where
  c1 : wr.cell? ⟨w.heap.size, 1, none⟩ = some (.int .i64 x)
  c2 : wr.cell? ⟨w.heap.size, 2, none⟩ = some (.int .i64 t)
  ps : ∀ k, k < 2 → ∃ p, wr.cell? ⟨w.heap.size + 2, k, none⟩ = some p ∧ NoQ p wr
  bel : Below w.heap.size w wr
theorem NobSt.below {w : World} {x t : Int} {a b : World} (h : NobSt w x t a) (hb : Below a.heap.size a b) : NobSt w x t b :=
  ⟨by rw [hb.cell (block_lt_of_cell h.c1)]; exact h.c1, by rw [hb.cell (block_lt_of_cell h.c2)]; exact h.c2, fun k hk => by
    obtain ⟨p, h1, h2⟩ := h.ps k hk
    exact ⟨p, by rw [hb.cell (block_lt_of_cell h1)]; exact h1, h2.below hb⟩, h.bel.trans (hb.mono h.bel.size)⟩
theorem cell_alloc (w : World) (o : Obj) (b i : Nat) (h : b < w.heap.size) : (w.alloc o).cell? ⟨b, i, none⟩ = w.cell? ⟨b, i, none⟩ := by
  unfold World.cell?
  rw [Below.heap_alloc w o b h]
theorem nob_start (w : World) (k x t : Int) : NobSt w x t (((w.alloc (.cells #[.int .u8 k, .int .i64 x, .int .i64 t] 27)).alloc (.cells #[.slice none 0 0, .map none] 59)).alloc (.cells #[.pointer none, .pointer (some ⟨w.heap.size + 1, 0, none⟩)] 23)) := by
  have hb := (((Below.refl w.heap.size w).alloc (Nat.le_refl _) (.cells #[.int .u8 k, .int .i64 x, .int .i64 t] 27)).alloc (by simp) (.cells #[.slice none 0 0, .map none] 59)).alloc (by simp; omega) (.cells #[.pointer none, .pointer (some ⟨w.heap.size + 1, 0, none⟩)] 23)
  have h0 := heap_new w #[.int .u8 k, .int .i64 x, .int .i64 t] 27
  have s0 : (w.alloc (.cells #[.int .u8 k, .int .i64 x, .int .i64 t] 27)).heap.size = w.heap.size + 1 := by simp
  generalize w.alloc (.cells #[.int .u8 k, .int .i64 x, .int .i64 t] 27) = w1 at hb h0 s0 ⊢
  have h1 := heap_new w1 #[.slice none 0 0, .map none] 59
  have s1 : (w1.alloc (.cells #[.slice none 0 0, .map none] 59)).heap.size = w.heap.size + 2 := by simp; omega
  have e1 : ∀ i, (w1.alloc (.cells #[.slice none 0 0, .map none] 59)).cell? ⟨w.heap.size, i, none⟩ = w1.cell? ⟨w.heap.size, i, none⟩ := fun i => cell_alloc _ _ _ _ (by omega)
  rw [s0] at h1
  generalize w1.alloc (.cells #[.slice none 0 0, .map none] 59) = w2 at hb h1 s1 e1 ⊢
  have h2 := heap_new w2 #[.pointer none, .pointer (some ⟨w.heap.size + 1, 0, none⟩)] 23
  have e2 : ∀ b i, b < w.heap.size + 2 → (w2.alloc (.cells #[.pointer none, .pointer (some ⟨w.heap.size + 1, 0, none⟩)] 23)).cell? ⟨b, i, none⟩ = w2.cell? ⟨b, i, none⟩ := fun b i h => cell_alloc _ _ _ _ (by omega)
  rw [s1] at h2
  generalize w2.alloc (.cells #[.pointer none, .pointer (some ⟨w.heap.size + 1, 0, none⟩)] 23) = w3 at hb h2 e2 ⊢
  refine ⟨?_, ?_, fun m hm => ?_, hb⟩
  · rw [e2 _ _ (by omega), e1, bcell h0]; rfl
  · rw [e2 _ _ (by omega), e1, bcell h0]; rfl
  · rcases m with _ | _ | m
    · exact ⟨_, by rw [bcell h2]; rfl, noq_nil _⟩
    · exact ⟨_, by rw [bcell h2]; rfl, noq_empty _ _ (by rw [e2 _ _ (by omega), bcell h1]; rfl)⟩
    · omega
set_option maxRecDepth 100000 in
set_option maxHeartbeats 3200000 in
theorem law_LeaseNobody1 (w : World) (k x t : Int) : Calls Try.prog 8 #[.agg #[.int .u8 k, .int .i64 x, .int .i64 t]] w (LawPost w) := by
  have AL := Lib.hid (fun V => alive_any V)
  go_enter Try.func8, Try.ntmps8
  go_wp2_with fail
  go_loopw [14] (fun v wr => ∃ m : Nat, m ≤ 2 ∧ v = .int .i64 (m : Nat) ∧ Hid (NobSt w x t wr)) (fun v _ => 2 - (intOf v).toNat)
  case atStart =>
    exact ⟨0, by omega, rfl, nob_start w k x t⟩
  case round =>
    obtain ⟨m, hm, rfl, HS⟩ := hrel
    by_cases hlt : m < 2
    · obtain ⟨p, hp, hn⟩ := HS.out.ps m hlt
      have c1 := HS.out.c1
      have c2 := HS.out.c2
      have F1 := Lib.hid (nfirst_any p wr hn)
      have U1 := Lib.hid (nuntil_any p wr hn x)
      have P1 := Lib.hid (nput_any p wr hn x t)
      have D1 := Lib.hid (ndrop_any p wr hn x)
      have E1 := Lib.hid (ndue_any p wr hn t)
      have L1 := Lib.hid (nlen_any p wr hn)
      have A1 := Lib.hid (nall_any p wr hn)
      have hmI : (m : Int) < 2 := by omega
      clear hn
      go_wp2_with (first
        | (go_at_call 20; (with_reducible refine F1.out.mono ?_); rintro e w1 ⟨rfl, rfl⟩)
        | (go_at_call 12; (with_reducible refine U1.out.mono ?_); rintro e w1 ⟨rfl, rfl⟩)
        | (go_at_call 17; (with_reducible refine P1.out.mono ?_); rintro e w1 ⟨rfl, rfl⟩)
        | (go_at_call 14; (with_reducible refine D1.out.mono ?_); rintro e w1 ⟨rfl, rfl⟩)
        | (go_at_call 15; (with_reducible refine E1.out.mono ?_); rintro e w1 ⟨rfl, rfl⟩)
        | (go_at_call 13; (with_reducible refine L1.out.mono ?_); rintro e w1 ⟨rfl, rfl⟩)
        | (go_at_call 18; (with_reducible refine A1.out.mono ?_); rintro e w1 ⟨rfl, rfl⟩))
      go_roundw
      case rel => exact ⟨m + 1, by omega, by go_num, HS⟩
      case measure => simp [intOf]; omega
    · obtain rfl : m = 2 := by omega
      go_wp2_with (go_at_call 16; (with_reducible refine (AL.out _).mono ?_); rintro e w1 ⟨rfl, b1⟩)
      go_ret
      exact ⟨rfl, HS.out.bel.trans (b1.out.mono HS.out.bel.size)⟩
theorem law_LeaseNobody (w : World) (a : AV) (h : a.ok) : Calls Try.prog 8 #[a.val] w (LawPost w) := law_LeaseNobody1 w a.k a.id a.til
end Go.Proofs.Ytiaonfmdjipekaa.Ls
