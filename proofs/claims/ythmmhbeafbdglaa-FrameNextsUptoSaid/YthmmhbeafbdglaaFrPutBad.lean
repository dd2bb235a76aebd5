import Derived.Test.YthmmhbeafbdglaaFrPut
namespace Go.Proofs.Ythmmhbeafbdglaa
open Go.RowKit
set_option maxHeartbeats 400000 in
theorem fput_arg (seq : Int) (A : Option Addr) (cap n : Nat) (w : World) (h : seq < 1 ∨ 4611686018427387904 < seq) :
    Calls Try.prog 22 #[.agg #[.int .i64 seq, .slice A n cap]] w fun e w' => e = .returned (.tuple #[.slice none 0 0, .int .i64 1]) ∧ Below w.heap.size w w' := by
  have hb : ∀ o : Obj, Below w.heap.size w (w.alloc o) := fun o => (Below.refl _ _).alloc (Nat.le_refl _) _
  have HB := Lib.hid hb
  clear hb
  rcases h with h | h
  · go_enter Try.func22, Try.ntmps22
    go_wp2
    go_ret2
    exact ⟨rfl, HB.out _⟩
  · have h' : ¬ seq < 1 := by omega
    go_enter Try.func22, Try.ntmps22
    go_wp2
    go_ret2
    exact ⟨rfl, HB.out _⟩
set_option maxHeartbeats 400000 in
theorem fput_many (seq : Int) (A : Option Addr) (cap n : Nat) (w : World) (h1 : 1 ≤ seq) (h2 : seq ≤ 4611686018427387904) (hn : (262144 : Int) < (n : Int)) :
    Calls Try.prog 22 #[.agg #[.int .i64 seq, .slice A n cap]] w fun e w' => e = .returned (.tuple #[.slice none 0 0, .int .i64 5]) ∧ Below w.heap.size w w' := by
  have hb : ∀ o : Obj, Below w.heap.size w (w.alloc o) := fun o => (Below.refl _ _).alloc (Nat.le_refl _) _
  have HB := Lib.hid hb
  clear hb
  go_enter Try.func22, Try.ntmps22
  go_wp2
  go_ret2
  exact ⟨rfl, HB.out _⟩
end Go.Proofs.Ythmmhbeafbdglaa
