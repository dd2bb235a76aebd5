import Derived.Test.YthmmhbeafbdglaaProg
import Derived.Test.YthmmhbeafbdglaaCrcPure
import Derived.WalkKit
import Derived.WalkSpells
import Derived.WalkLawsBesides
namespace Go.Proofs.Ythmmhbeafbdglaa
open Go.RowKit
/-- the table's cells -/
def tabCells : Array Value := #[.int .u32 (Crc.halves 4 0 : Nat), .int .u32 (Crc.halves 4 1 : Nat), .int .u32 (Crc.halves 4 2 : Nat), .int .u32 (Crc.halves 4 3 : Nat), .int .u32 (Crc.halves 4 4 : Nat), .int .u32 (Crc.halves 4 5 : Nat), .int .u32 (Crc.halves 4 6 : Nat), .int .u32 (Crc.halves 4 7 : Nat), .int .u32 (Crc.halves 4 8 : Nat), .int .u32 (Crc.halves 4 9 : Nat), .int .u32 (Crc.halves 4 10 : Nat), .int .u32 (Crc.halves 4 11 : Nat), .int .u32 (Crc.halves 4 12 : Nat), .int .u32 (Crc.halves 4 13 : Nat), .int .u32 (Crc.halves 4 14 : Nat), .int .u32 (Crc.halves 4 15 : Nat)]

theorem step_core (g : Nat) (x c y i a z j b r : Nat) (w : World) (e1 : bits .xor .u32 (x : Int) (c : Int) = (y : Int)) (e2 : bits .and .u32 (y : Int) 15 = (i : Int)) (hi : (i : Int) < 16)
    (hx : (x : Int) < 4294967296) (hc : (c : Int) < 256) (h1 : w.cell? ⟨g, i, none⟩ = some (.int .u32 (a : Int))) (e3 : bits .xor .u32 ((y : Int) / 16) (a : Int) = (z : Int)) (e4 : bits .and .u32 (z : Int) 15 = (j : Int)) (hj : (j : Int) < 16)
    (h2 : w.cell? ⟨g, j, none⟩ = some (.int .u32 (b : Int))) (e5 : bits .xor .u32 ((z : Int) / 16) (b : Int) = (r : Int)) :
    Calls Try.prog 35 #[.pointer (some ⟨g, 0, none⟩), .int .u32 x, .int .u8 c] w fun e w' => e = .returned (.int .u32 (r : Nat)) ∧ w = w' := by
  go_enter Try.func35, Try.ntmps35
  go_wp2
  go_ret
  exact ⟨rfl, rfl⟩

theorem and15 (y : Nat) (h : y < 4294967296) : bits .and .u32 (y : Int) 15 = ((y % 16 : Nat) : Int) := by
  have h1 := u32_and_nat y 15 h (by omega)
  rw [show ((15 : Nat) : Int) = 15 from rfl] at h1
  rw [h1]
  congr 1
  exact Nat.and_two_pow_sub_one_eq_mod y 4

theorem xor32 (x y : Nat) (hx : x < 4294967296) (hy : y < 4294967296) : bits .xor .u32 (x : Int) (y : Int) = ((x ^^^ y : Nat) : Int) := u32_xor_nat x y hx hy

theorem xor32d (x y : Nat) (hx : x < 4294967296) (hy : y < 4294967296) : bits .xor .u32 ((x : Int) / 16) (y : Int) = ((x / 16 ^^^ y : Nat) : Int) := by
  have h := u32_xor_nat (x / 16) y (by omega) hy
  rw [← h]; congr 1

/-- one byte more: what 'step' answers -/
theorem step_any (g x c : Nat) (w : World) (hx : x < 4294967296) (hc : c < 256) (hcell : ∀ i : Nat, i < 16 → w.cell? ⟨g, i, none⟩ = some (.int .u32 (Crc.halves 4 i : Nat))) :
    Calls Try.prog 35 #[.pointer (some ⟨g, 0, none⟩), .int .u32 x, .int .u8 c] w fun e w' => e = .returned (.int .u32 (Crc.stp x c : Nat)) ∧ w = w' := by
  have hy : x ^^^ c < 4294967296 := Crc.xor_lt hx (by omega)
  have ha : ∀ i, i < 16 → Crc.halves 4 i < 4294967296 := fun i hi => Crc.halves_lt 4 (by omega)
  have hz : (x ^^^ c) / 16 ^^^ Crc.halves 4 ((x ^^^ c) % 16) < 4294967296 := Crc.xor_lt (by omega) (ha _ (by omega))
  refine step_core g x c _ _ _ _ _ _ _ w (xor32 x c hx (by omega)) (and15 _ hy) (by omega) (by omega) (by omega) (hcell _ (by omega)) (xor32d _ _ hy (ha _ (by omega))) (and15 _ hz) (by omega) (hcell _ (by omega)) ?_
  rw [xor32d _ _ hz (ha _ (by omega)), Crc.stp_nibbles]
end Go.Proofs.Ythmmhbeafbdglaa
