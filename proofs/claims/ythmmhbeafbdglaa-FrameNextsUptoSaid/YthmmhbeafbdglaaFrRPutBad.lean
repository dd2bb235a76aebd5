import Derived.Test.YthmmhbeafbdglaaFrRPut
namespace Go.Proofs.Ythmmhbeafbdglaa
open Go.RowKit
set_option maxHeartbeats 400000 in
theorem rput_arg (seq : Int) (A : Option Addr) (cap n : Nat) (w : World) (h : seq < 1 ∨ 4611686018427387904 < seq) :
    Calls Try.prog 24 #[.agg #[.int .i64 seq, .slice A n cap]] w fun e w' => e = .returned (.tuple #[.slice none 0 0, .int .i64 1]) ∧ Below w.heap.size w w' := by
  have HB : Hid (∀ o : Obj, Below w.heap.size w (w.alloc o)) := fun o => (Below.refl _ _).alloc (Nat.le_refl _) _
  rcases h with h | h
  · go_enter Try.func24, Try.ntmps24
    go_wp2
    go_ret2
    exact ⟨rfl, HB.out _⟩
  · have h' : ¬ seq < 1 := by omega
    go_enter Try.func24, Try.ntmps24
    go_wp2
    go_ret2
    exact ⟨rfl, HB.out _⟩
set_option maxHeartbeats 400000 in
theorem rput_many (seq : Int) (A : Option Addr) (cap n : Nat) (w : World) (h1 : 1 ≤ seq) (h2 : seq ≤ 4611686018427387904) (hn : (262144 : Int) < (n : Int)) :
    Calls Try.prog 24 #[.agg #[.int .i64 seq, .slice A n cap]] w fun e w' => e = .returned (.tuple #[.slice none 0 0, .int .i64 5]) ∧ Below w.heap.size w w' := by
  have HB : Hid (∀ o : Obj, Below w.heap.size w (w.alloc o)) := fun o => (Below.refl _ _).alloc (Nat.le_refl _) _
  go_enter Try.func24, Try.ntmps24
  go_wp2
  go_ret2
  exact ⟨rfl, HB.out _⟩
set_option maxHeartbeats 400000 in
theorem theirs_any (seq : Int) (A : Option Addr) (cap n : Nat) (w : World) :
    Calls Try.prog 23 #[.agg #[.int .i64 seq, .slice A n cap]] w fun e w' => e = .returned (.agg #[.int .i64 seq, .slice A n cap]) ∧ Below w.heap.size w w' := by
  have HB : Hid (∀ o p : Obj, Below w.heap.size w ((w.alloc o).alloc p)) := fun o p => ((Below.refl _ _).alloc (Nat.le_refl _) _).alloc (by simp) _
  go_enter Try.func23, Try.ntmps23
  go_wp2
  refine bodyPost_ret (v := .agg #[.int .i64 seq, .slice A n cap]) (by simp [results, Try.results23, go_sem]) rfl ⟨rfl, HB.out _ _⟩
end Go.Proofs.Ythmmhbeafbdglaa
