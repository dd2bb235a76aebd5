import Derived.Test.YthmmhbeafbdglaaCrcStep
import Derived.Lib.Hide
namespace Go.Proofs.Ythmmhbeafbdglaa
open Go.RowKit
/-- the table, its first k entries filled in -/
def tabK (k : Nat) : Array Value := ((List.range 16).map fun i => Value.int .u32 (if i < k then (Crc.halves 4 i : Nat) else (0 : Nat) : Nat)).toArray
theorem tabK_zero : tabK 0 = #[.int .u32 0, .int .u32 0, .int .u32 0, .int .u32 0, .int .u32 0, .int .u32 0, .int .u32 0, .int .u32 0, .int .u32 0, .int .u32 0, .int .u32 0, .int .u32 0, .int .u32 0, .int .u32 0, .int .u32 0, .int .u32 0] := rfl
theorem tab_one : tabCells.all (·.oneCell') = true := by simp [tabCells, Value.oneCell']
theorem tabK_full : tabK 16 = tabCells := rfl
theorem tabK_get (k i : Nat) (h : i < 16) : (tabK k)[i]? = some (.int .u32 (if i < k then (Crc.halves 4 i : Nat) else (0 : Nat) : Nat)) := by
  unfold tabK
  rw [List.getElem?_toArray, List.getElem?_map, List.getElem?_range h]
  rfl
theorem tabK_set (k : Nat) (h : k < 16) : (tabK k).setIfInBounds k (.int .u32 (Crc.halves 4 k : Nat)) = tabK (k + 1) := by
  apply Array.ext_getElem?
  intro i
  rw [Array.getElem?_setIfInBounds]
  have hs : (tabK k).size = 16 := by simp [tabK]
  by_cases hi : i < 16
  · rw [tabK_get (k + 1) i hi, tabK_get k i hi, hs]
    by_cases hk : k = i
    · subst hk
      rw [if_pos rfl, if_pos h, if_pos (by omega)]
    · rw [if_neg hk]
      by_cases h3 : i < k
      · rw [if_pos h3, if_pos (by omega)]
      · rw [if_neg h3, if_neg (by omega)]
  · have hs2 : (tabK (k + 1)).size = 16 := by simp [tabK]
    rw [if_neg (by omega), Array.getElem?_eq_none (by omega), Array.getElem?_eq_none (by omega)]

theorem half_bits (x : Nat) (hx : x < 4294967296) : ∃ b m q : Nat, bits .and .u32 (x : Int) 1 = (b : Int) ∧ IntKind.u32.wrap (-(b : Int)) = (m : Int) ∧ bits .and .u32 3988292384 (m : Int) = (q : Int) ∧ bits .xor .u32 ((x : Int) / 2) (q : Int) = ((Crc.half x : Nat) : Int) := by
  have h1 := u32_and_nat x 1 hx (by omega)
  rw [show ((1 : Nat) : Int) = 1 from rfl, Nat.and_one_is_mod] at h1
  have hd : ((x : Int) / 2) = ((x / 2 : Nat) : Int) := by omega
  rcases Nat.mod_two_eq_zero_or_one x with h | h
  · refine ⟨x % 2, 0, 0, h1, by rw [h]; decide, by decide, ?_⟩
    rw [hd, u32_xor_nat _ _ (by omega) (by omega)]
    simp [Crc.half, h]
  · refine ⟨x % 2, 4294967295, 3988292384, h1, by rw [h]; decide, by decide, ?_⟩
    rw [hd, u32_xor_nat _ _ (by omega) (by omega)]
    simp [Crc.half, h]

theorem block_set {w : World} {g : Nat} {cs : Array Value} {t : TypeId} (h : w.heap[g]? = some (.cells cs t (0, 0))) (i : Nat) (v : Value) :
    (w.setCell ⟨g, i, none⟩ v).heap[g]? = some (.cells (cs.setIfInBounds i v) t (0, 0)) := by
  simp [World.setCell, Array.getElem?_modify, h]
theorem block_cell {w : World} {g : Nat} {cs : Array Value} {t : TypeId} {fr : Nat × Nat} (h : w.heap[g]? = some (.cells cs t fr)) (i : Nat) : w.cell? ⟨g, i, none⟩ = cs[i]? := by
  simp [World.cell?, h]
theorem block_free {w : World} {g : Nat} {cs : Array Value} {t : TypeId} (h : w.heap[g]? = some (.cells cs t (0, 0))) (i : Nat) : w.frozen? ⟨g, i, none⟩ = false := by
  simp [World.frozen?, h]

theorem setRow_below (w : World) {B g : Nat} (h : B ≤ g) (cs : Array Value) : Below B w (w.setRow g cs) :=
  ⟨rfl, rfl, rfl, by simp [World.setRow], fun k hk => by simp only [World.setRow, Array.getElem?_modify]; rw [if_neg (by omega)]⟩

set_option maxHeartbeats 400000 in
theorem nibbles_any (w : World) :
    Calls Try.prog 34 #[] w fun e w' => e = .returned (.agg tabCells) ∧ Below w.heap.size w w' := by
  go_enter Try.func34, Try.ntmps34
  go_wp2
  go_loopw [4] (fun i wr => ∃ k : Nat, k ≤ 16 ∧ i = .int .i64 k ∧ wr.heap[w.heap.size + 1]? = some (.cells (tabK k) 66 (0, 0)) ∧ (∃ cs, wr.heap[w.heap.size]? = some (.cells cs 66 (0, 0)) ∧ cs.size = 16) ∧ Below w.heap.size w wr) (fun i _ => 16 - (intOf i).toNat)
  case atStart =>
    refine ⟨0, by omega, rfl, ?_, ⟨_, heap_alloc2_old _ _ _, by rfl⟩, ((Below.refl _ _).alloc (Nat.le_refl _) _).alloc (by simp) _⟩
    rw [tabK_zero]
    exact heap_alloc2_new _ _ _
  case round =>
    obtain ⟨k, hk, rfl, hb1, ⟨cs, hb0, hcs⟩, hnx⟩ := hrel
    by_cases hlt : k < 16
    · have hold := (block_cell hb1 k).trans (tabK_get k k hlt)
      have hfr := block_free hb1 k
      have HB1 := Lib.hid hb1
      have HB0 := Lib.hid hb0
      clear hb1 hb0
      go_wp2
      go_loop [3, 9] (fun x j => ∃ (m n : Nat), n ≤ 4 ∧ j = .int .i64 n ∧ m < 4294967296 ∧ x = .int .u32 m ∧ Hid (Crc.halves (4 - n) m = Crc.halves 4 k)) (fun _ j => 4 - (intOf j).toNat)
      case atStart => exact ⟨k, 0, by omega, rfl, by omega, by rfl, rfl⟩
      case round =>
        obtain ⟨m, n, hn, rfl, hm, rfl, hh⟩ := hrel
        by_cases hn4 : n < 4
        · obtain ⟨b, p, q, e1, e2, e3, e4⟩ := half_bits m hm
          go_wp2
          go_round
          case rel => exact ⟨Crc.half m, n + 1, by omega, by go_num, Crc.half_lt hm, rfl, by
            have h5 := hh.out
            rw [show 4 - n = (4 - (n + 1)) + 1 by omega] at h5
            exact h5⟩
          case measure => simp [intOf]; omega
        · obtain rfl : n = 4 := by omega
          have h5 : m = Crc.halves 4 k := hh.out
          subst h5
          clear hh
          go_wp2
          go_roundw
          case rel => exact ⟨k + 1, by omega, by go_num, by rw [← tabK_set k hlt]; exact block_set HB1.out k _, ⟨cs, by rw [Below.heap_setCell _ _ _ _ (by simp)]; exact HB0.out, hcs⟩, hnx.setCell (by simp) _⟩
          case measure => simp [intOf]; omega
    · obtain rfl : k = 16 := by omega
      rw [tabK_full] at hb1
      go_wp2_with (first
        | (refine wpList_load_row rfl 66 _ rfl (w.heap.size + 1) rfl 66 tabCells (0, 0) _ hb1 Try.underlying66 rfl (by kernel_rfl) ?_)
        | (refine wpList_store_row rfl 66 _ _ rfl w.heap.size tabCells rfl rfl 66 cs hb0 (by kernel_rfl) hcs tab_one ?_))
      have hb2 := setRow_heap wr w.heap.size cs tabCells 66 (0, 0) hb0
      have hb3 : Below w.heap.size w (wr.setRow w.heap.size tabCells) := hnx.trans (setRow_below wr (Nat.le_refl _) tabCells)
      refine bodyPost_ret (results_cell_row (p := 0) (by kernel_rfl) _ _ _ 66 _ _ _ ?_ hb2 Try.underlying66 rfl (by kernel_rfl)) rfl ⟨rfl, hb3⟩
      rfl
end Go.Proofs.Ythmmhbeafbdglaa
