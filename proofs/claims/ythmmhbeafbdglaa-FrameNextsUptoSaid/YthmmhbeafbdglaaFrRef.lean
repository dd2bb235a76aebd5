import Derived.Test.YthmmhbeafbdglaaFrAlive
namespace Go.Proofs.Ythmmhbeafbdglaa
open Go.RowKit
theorem wrap_u64_8 (x : Nat) : IntKind.u8.wrap ((x % 256 : Nat) : Int) = ((x % 256 : Nat) : Int) := by rw [wrap_u8]; congr 1; omega
set_option maxHeartbeats 400000 in
/-- the document's bytes of a number -/
theorem number_any (n v : Nat) (w : World) (hn : 1 ≤ n) (hn8 : n ≤ 8) (hv : v < 18446744073709551616) :
    Calls Try.prog 41 #[.int .u64 v, .int .i64 n] w fun e w' => e = .returned (.slice (some ⟨w.heap.size, 0, none⟩) n n) ∧ w'.heap[w.heap.size]? = some (.cells (cellsOf (numB n v)).toArray 5 (0, 0)) ∧ w'.heap.size = w.heap.size + 1 ∧ Below w.heap.size w w' := by
  have hmk := fun W => make_bytes n n (Nat.le_refl _) (by omega) W
  have HB0 : Hid (Below w.heap.size w (w.alloc (.cells (cellsOf (List.replicate n 0)).toArray 5))) := (Below.refl _ _).alloc (Nat.le_refl _) _
  have HW := Lib.hid (Wrote.refl (heap_alloc_new w (.cells (cellsOf (List.replicate n 0)).toArray 5)))
  have hL : 0 + n ≤ (List.replicate n 0).length := by simp
  have HS0 : Hid ((w.alloc (.cells (cellsOf (List.replicate n 0)).toArray 5)).heap.size = w.heap.size + 1) := by show _ = _; simp
  go_enter Try.func41, Try.ntmps41
  go_wp2_with fail
  generalize w.alloc (.cells (cellsOf (List.replicate n 0)).toArray 5) = w0 at HB0 HW HS0 ⊢
  have HEND : Hid (overB (List.replicate n 0) 0 n v 0 = numB n v) := by show _ = _; unfold overB; simp
  clear hmk
  generalize List.replicate n 0 = L at HW hL HEND
  go_loopg [0, 6] n (fun m x i wr => ∃ (y : Nat) (j : Int), m ≤ n ∧ x = .int .u64 y ∧ y < 18446744073709551616 ∧ i = .int .i64 j ∧ j = (m : Int) - 1 ∧ Hid (y = v / 256 ^ (n - m)) ∧ Hid (Wrote w0 wr w.heap.size (overB L 0 n v m)))
  case atStart => exact ⟨v, (n : Int) - 1, Nat.le_refl _, rfl, hv, rfl, rfl, by rw [Nat.sub_self]; exact (Nat.div_one v).symm, by rw [overB_n]; exact HW.out⟩
  case round =>
    obtain ⟨y, j, hm, rfl, hy, rfl, hj, hyv, hw⟩ := hrel
    by_cases h0 : gk = 0
    · subst h0
      have hj1 : j < 0 := by omega
      have HW2 := Lib.hid hw.out
      clear hw hyv hj
      go_wp2
      go_ret
      exact ⟨rfl, by rw [← HEND.out]; exact HW2.out.block, by rw [HW2.out.size, HS0.out], HB0.out.trans (HW2.out.below (Nat.le_refl _))⟩
    · obtain ⟨m, hm1⟩ : ∃ m, gk = m + 1 := ⟨gk - 1, by omega⟩
      obtain rfl : j = (m : Int) := by omega
      rw [hm1] at hyv hw
      have hmn : (m : Int) < (n : Int) := by omega
      have HG := Lib.hid hm1
      clear hm1 hj hm h0
      have hc := (block_cell hw.out.block (0 + m)).trans (cellsOf_at _ (by rw [overB_length hL (by omega)]; omega))
      have hf := block_free hw.out.block (0 + m)
      rw [Nat.zero_add] at hc hf
      have hd : y % 256 = v / 256 ^ (n - 1 - m) % 256 := by rw [hyv.out, show n - (m + 1) = n - 1 - m by omega]
      have HD := Lib.hid hd
      clear hd
      have HY : Hid (y / 256 = v / 256 ^ (n - m)) := by
        show y / 256 = v / 256 ^ (n - m)
        rw [hyv.out]; exact div_pow_step v n m (by omega)
      have hmod : (y : Int) % 256 = ((y % 256 : Nat) : Int) := by omega
      have hdl : y % 256 < 256 := Nat.mod_lt _ (by omega)
      generalize y % 256 = d at hmod HD hdl
      have hwr : IntKind.u8.wrap (d : Int) = (d : Int) := by rw [wrap_u8, Nat.mod_eq_of_lt hdl]
      generalize (overB L 0 n v (m + 1)).getD m 0 = o at hc
      go_wp2
      go_roundg m
      case measure => have := HG.out; omega
      case rel => exact ⟨y / 256, (m : Int) - 1, by omega, by go_num, by omega, rfl, rfl, HY.out, by
        have := hw.out.set (0 + m) d
        rw [HD.out, overB_step hL (by omega), ← HD.out, Nat.zero_add] at this
        exact this⟩
end Go.Proofs.Ythmmhbeafbdglaa
