import Derived.Test.YthmmhbeafbdglaaCrcNib
import Derived.Deep.WholeRow
namespace Go.Proofs.Ythmmhbeafbdglaa
open Go.RowKit
/-- a slice's bytes lie where its address says -/
def BytesAt (w : World) (A : Option Addr) (bs : List Nat) : Prop :=
  bs = [] ∨ ∃ b off, A = some ⟨b, off, none⟩ ∧ b < w.heap.size ∧ ∀ i : Nat, i < bs.length → w.cell? ⟨b, off + i, none⟩ = some (.int .u8 (bs.getD i 0 : Nat))
def AllBytes (bs : List Nat) : Prop := ∀ c ∈ bs, c < 256

theorem not32 (s : Nat) (hs : s < 4294967296) : bits .xor .u32 IntKind.u32.max (s : Int) = ((Crc.inv s : Nat) : Int) := by
  rw [show IntKind.u32.max = ((4294967295 : Nat) : Int) from by decide, u32_xor_nat _ _ (by omega) hs, Crc.inv_xor hs, Nat.xor_comm]
theorem take_snoc {α : Type} (l : List α) (k : Nat) (d : α) (h : k < l.length) : l.take (k + 1) = l.take k ++ [l.getD k d] := by
  rw [List.take_succ_eq_append_getElem h, List.getD_eq_getElem?_getD, List.getElem?_eq_getElem h]; rfl
theorem AllBytes.getD {bs : List Nat} (h : AllBytes bs) (k : Nat) : bs.getD k 0 < 256 := by
  rw [List.getD_eq_getElem?_getD]
  cases hk : bs[k]? with
  | none => simp
  | some c => exact h c (List.mem_of_getElem? hk)
theorem AllBytes.take {bs : List Nat} (h : AllBytes bs) (k : Nat) : AllBytes (bs.take k) := fun c hc => h c (List.mem_of_mem_take hc)
theorem AllBytes.drop {bs : List Nat} (h : AllBytes bs) (k : Nat) : AllBytes (bs.drop k) := fun c hc => h c (List.mem_of_mem_drop hc)
theorem run_snoc (x : Nat) (bs : List Nat) (k : Nat) (h : k < bs.length) : Crc.run x (bs.take (k + 1)) = Crc.stp (Crc.run x (bs.take k)) (bs.getD k 0) := by
  rw [take_snoc bs k 0 h, Crc.run_append]; rfl
theorem inv_lt (s : Nat) : Crc.inv s < 4294967296 := by unfold Crc.inv; omega

set_option maxHeartbeats 400000 in
theorem add_any (s : Nat) (A : Option Addr) (cap : Nat) (bs : List Nat) (w : World) (hs : s < 4294967296) (hbs : AllBytes bs) (hlen : bs.length ≤ 9223372036854775807) (hA : BytesAt w A bs) :
    Calls Try.prog 18 #[.int .u32 s, .slice A bs.length cap] w fun e w' => e = .returned (.int .u32 (Crc.inv (Crc.run (Crc.inv s) bs) : Nat)) ∧ Below w.heap.size w w' := by
  have hmf : ∀ (fn : Fn) (first cap : Array Value) (w : World), (Instr.makeFunc fn first cap).run Try.prog w = .ok (.func fn first cap) w := fun _ _ _ _ => rfl
  have hx0 := not32 s hs
  have hxl := inv_lt s
  obtain ⟨x0, hx0e⟩ : ∃ x0, Crc.inv s = x0 := ⟨_, rfl⟩
  rw [hx0e] at hx0 hxl ⊢
  clear hx0e
  go_enter Try.func18, Try.ntmps18
  go_wp2_with (first
    | (go_at_call 34; refine (nibbles_any _).mono ?_; rintro e w1 ⟨rfl, hb⟩)
    | (refine wpList_store_row rfl 66 _ _ rfl w1.heap.size tabCells rfl rfl 66 _ (heap_alloc_new _ _) (by kernel_rfl) rfl tab_one ?_; rw [World.setRow_alloc_new]))
  have hend : Below w.heap.size w (w1.alloc (Obj.cells tabCells 66)) := hb.alloc hb.size _
  have htab : ∀ i : Nat, i < 16 → (w1.alloc (Obj.cells tabCells 66)).cell? ⟨w1.heap.size, i, none⟩ = some (.int .u32 (Crc.halves 4 i : Nat)) := by
    intro i hi
    rw [block_cell (heap_alloc_new _ _) i, ← tabK_full, tabK_get 16 i hi, if_pos hi]
  have HEND := Lib.hid hend
  have HTAB := Lib.hid htab
  have HX := Lib.hid hx0
  clear hend htab hb hx0
  go_loop [7, 16] (fun x i => ∃ k : Nat, k ≤ bs.length ∧ i = .int .i64 k ∧ x = .int .u32 (Crc.run x0 (bs.take k) : Nat)) (fun _ i => bs.length - (intOf i).toNat)
  case atStart => exact ⟨0, Nat.zero_le _, rfl, rfl⟩
  case round =>
    obtain ⟨k, hk, rfl, rfl⟩ := hrel
    have hrl : Crc.run x0 (bs.take k) < 4294967296 := Crc.run_lt _ hxl (hbs.take k)
    by_cases hlt : k < bs.length
    · have HS := Lib.hid (run_snoc x0 bs k hlt)
      have hcb := hbs.getD k
      have hc : ∃ b off, A = some ⟨b, off, none⟩ ∧ (w1.alloc (Obj.cells tabCells 66)).cell? ⟨b, off + k, none⟩ = some (.int .u8 (bs.getD k 0 : Nat)) := by
        rcases hA with h | ⟨b, off, h1, h2, h3⟩
        · subst h; simp at hlt
        · exact ⟨b, off, h1, (HEND.out.cell (p := ⟨b, off + k, none⟩) h2).trans (h3 k hlt)⟩
      obtain ⟨b, off, rfl, hc⟩ := hc
      clear hA
      generalize bs.getD k 0 = c at HS hcb hc
      generalize Crc.run x0 (bs.take k) = m at HS hrl ⊢
      go_wp2_with (go_at_call 35; refine (step_any _ _ _ _ hrl hcb HTAB.out).mono ?_; rintro e w2 ⟨rfl, rfl⟩)
      go_round
      case rel => exact ⟨k + 1, by omega, by go_num, by rw [HS.out]⟩
      case measure => simp [intOf]; omega
    · obtain rfl : k = bs.length := by omega
      have hn := not32 _ hrl
      rw [List.take_length] at hn hrl ⊢
      go_wp2
      go_ret
      exact ⟨rfl, HEND.out⟩
end Go.Proofs.Ythmmhbeafbdglaa
