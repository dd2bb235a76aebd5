import Derived.Test.YthmmhbeafbdglaaLawCrcE
namespace Go.Proofs.Ythmmhbeafbdglaa
open Go.RowKit
/-- a number of bytes, the highest first -/
def valB (bs : List Nat) : Nat := bs.foldl (fun n c => n * 256 + c) 0
theorem valB_snoc (bs : List Nat) (c : Nat) : valB (bs ++ [c]) = valB bs * 256 + c := by unfold valB; rw [List.foldl_append]; rfl
theorem valF_lt : ∀ (bs : List Nat) (x : Nat), AllBytes bs → bs.foldl (fun n c => n * 256 + c) x < (x + 1) * 256 ^ bs.length
  | [], x, _ => by simp
  | c :: bs, x, h => by
    have h1 := valF_lt bs (x * 256 + c) (fun d hd => h d (by simp [hd]))
    have h2 := h c (by simp)
    have h3 : (x * 256 + c + 1) * 256 ^ bs.length ≤ ((x + 1) * 256) * 256 ^ bs.length := Nat.mul_le_mul_right _ (by omega)
    show bs.foldl _ (x * 256 + c) < _
    rw [List.length_cons, Nat.pow_succ, Nat.mul_comm (256 ^ bs.length) 256, ← Nat.mul_assoc]
    omega
theorem valB_lt (bs : List Nat) (h : AllBytes bs) : valB bs < 256 ^ bs.length := by have := valF_lt bs 0 h; simpa [valB] using this
theorem valB_lt64 (bs : List Nat) (h : AllBytes bs) (hl : bs.length ≤ 8) : valB bs < 18446744073709551616 := by
  have h1 := valB_lt bs h
  have h2 : 256 ^ bs.length ≤ 256 ^ 8 := Nat.pow_le_pow_right (by omega) hl
  have h3 : 256 ^ 8 = 18446744073709551616 := by decide
  omega
theorem valB_lt56 (bs : List Nat) (h : AllBytes bs) (hl : bs.length ≤ 7) : valB bs < 72057594037927936 := by
  have h1 := valB_lt bs h
  have h2 : 256 ^ bs.length ≤ 256 ^ 7 := Nat.pow_le_pow_right (by omega) hl
  have h3 : 256 ^ 7 = 72057594037927936 := by decide
  omega
theorem valB_take (bs : List Nat) (k : Nat) (h : k < bs.length) : valB (bs.take (k + 1)) = valB (bs.take k) * 256 + bs.getD k 0 := by rw [take_snoc bs k 0 h, valB_snoc]
theorem or_disj (m c : Nat) (hc : c < 256) : m * 256 ||| c = m * 256 + c := by
  have := Nat.two_pow_add_eq_or_of_lt (i := 8) (b := c) hc m
  rw [Nat.mul_comm m 256]
  exact this.symm
theorem or64 (m c : Nat) (hm : m * 256 < 18446744073709551616) (hc : c < 256) : bits .or .u64 ((m * 256 : Nat) : Int) (c : Int) = ((m * 256 + c : Nat) : Int) := by
  rw [u64_or_nat _ _ hm (by omega), or_disj m c hc]

set_option maxHeartbeats 400000 in
theorem get_any (A : Option Addr) (cap : Nat) (bs : List Nat) (w : World) (g : BytesIn w A cap bs) (hl : bs.length ≤ 8) :
    Calls Try.prog 43 #[.slice A bs.length cap] w fun e w' => e = .returned (.int .u64 (valB bs : Nat)) ∧ w = w' := by
  go_enter Try.func43, Try.ntmps43
  go_wp2_with fail
  go_loop [3, 8] (fun x i => ∃ k : Nat, k ≤ bs.length ∧ i = .int .i64 k ∧ x = .int .u64 (valB (bs.take k) : Nat)) (fun _ i => bs.length - (intOf i).toNat)
  case atStart => exact ⟨0, Nat.zero_le _, rfl, rfl⟩
  case round =>
    obtain ⟨k, hk, rfl, rfl⟩ := hrel
    by_cases hlt : k < bs.length
    · have HS := Lib.hid (valB_take bs k hlt)
      have hcb := g.bytes.getD k
      obtain ⟨b, off, rfl, _, hc⟩ := bytes_cell g.at_ hlt
      have hm := valB_lt56 (bs.take k) (g.bytes.take k) (by simp; omega)
      clear g
      generalize bs.getD k 0 = c at HS hcb hc
      generalize valB (bs.take k) = m at HS hm ⊢
      have ho := or64 m c (by omega) hcb
      have HM : Hid (m * 256 + c = valB (bs.take (k + 1))) := HS.out.symm
      have hw : IntKind.u64.wrap ((m : Int) * 256) = ((m * 256 : Nat) : Int) := by
        have : ((m : Int) * 256) = ((m * 256 : Nat) : Int) := by omega
        rw [this]
        exact IntWalk.u64_in _ ⟨by omega, by omega⟩
      have hw2 : ((m : Int) * 256) = ((m * 256 : Nat) : Int) := by omega
      generalize m * 256 + c = r at ho HM
      generalize m * 256 = q at ho hw hw2
      go_wp2
      go_round
      case rel => exact ⟨k + 1, by omega, by go_num, by rw [← HM.out]⟩
      case measure => simp [intOf]; omega
    · obtain rfl : k = bs.length := by omega
      rw [List.take_length]
      go_wp2
      go_ret
      exact ⟨rfl, rfl⟩

/-- the n bytes of a number, the highest first -/
def numB (n v : Nat) : List Nat := (List.range n).map fun j => v / 256 ^ (n - 1 - j) % 256
theorem numB_length (n v : Nat) : (numB n v).length = n := by simp [numB]
theorem numB_get {n v j : Nat} (h : j < n) : (numB n v)[j]? = some (v / 256 ^ (n - 1 - j) % 256) := by simp [numB, h]
theorem numB_bytes (n v : Nat) : AllBytes (numB n v) := by
  intro c hc
  obtain ⟨j, _, rfl⟩ := List.mem_map.1 hc
  exact Nat.mod_lt _ (by omega)
/-- a row's bytes, those from m on of n of them written over -/
def overB (L : List Nat) (off n v m : Nat) : List Nat := L.take (off + m) ++ (numB n v).drop m ++ L.drop (off + n)
theorem overB_length {L : List Nat} {off n v m : Nat} (h : off + n ≤ L.length) (hm : m ≤ n) : (overB L off n v m).length = L.length := by
  simp [overB, numB_length]; omega
theorem overB_n {L : List Nat} {off n v : Nat} : overB L off n v n = L := by
  unfold overB
  rw [List.drop_eq_nil_of_le (by rw [numB_length]; exact Nat.le_refl _), List.append_nil, List.take_append_drop]
theorem drop_cons {l : List Nat} {m d : Nat} (h : l[m]? = some d) : l.drop m = d :: l.drop (m + 1) := by
  obtain ⟨hl, rfl⟩ := List.getElem?_eq_some_iff.1 h
  exact (List.getElem_cons_drop hl).symm
theorem overB_step {L : List Nat} {off n v m : Nat} (h : off + n ≤ L.length) (hm : m < n) : (overB L off n v (m + 1)).set (off + m) (v / 256 ^ (n - 1 - m) % 256) = overB L off n v m := by
  unfold overB
  have hl : off + m < L.length := by omega
  have e1 : L.take (off + (m + 1)) = L.take (off + m) ++ [L.getD (off + m) 0] := take_snoc L (off + m) 0 hl
  rw [e1, drop_cons (numB_get hm)]
  rw [List.append_assoc, List.append_assoc, List.append_assoc]
  rw [List.set_append_right _ _ (by simp; omega)]
  simp
  rw [show off + m - min (off + m) L.length = 0 by omega]
  rfl
theorem cellsOf_set (bs : List Nat) (i d : Nat) : (cellsOf bs).toArray.setIfInBounds i (.int .u8 (d : Int)) = (cellsOf (bs.set i d)).toArray := by
  simp [cellsOf, List.map_set]
theorem cellsOf_at (bs : List Nat) {i : Nat} (h : i < bs.length) : (cellsOf bs).toArray[i]? = some (.int .u8 (bs.getD i 0 : Nat)) := by
  rw [List.getElem?_toArray]; exact cellsOf_get h
theorem div_pow_step (v n m : Nat) (h : m < n) : v / 256 ^ (n - (m + 1)) / 256 = v / 256 ^ (n - m) := by
  rw [Nat.div_div_eq_div_mul, ← Nat.pow_succ, show (n - (m + 1)).succ = n - m by omega]
theorem wrap_u8 (x : Nat) : IntKind.u8.wrap (x : Int) = ((x % 256 : Nat) : Int) := by
  simp [IntKind.wrap, IntKind.bits, IntKind.signed]
/-- a row in one block was written -/
structure Wrote (w w' : World) (g : Nat) (bs : List Nat) : Prop where
  block : w'.heap[g]? = some (.cells (cellsOf bs).toArray 5 (0, 0))
  size : w'.heap.size = w.heap.size
  rest : w.grownBy w' (some g)
theorem Wrote.refl {w : World} {g : Nat} {bs : List Nat} (h : w.heap[g]? = some (.cells (cellsOf bs).toArray 5 (0, 0))) : Wrote w w g bs := ⟨h, rfl, ⟨rfl, rfl, rfl, Nat.le_refl _, fun _ _ _ => rfl⟩⟩
theorem Wrote.set {w w' : World} {g : Nat} {bs : List Nat} (h : Wrote w w' g bs) (i d : Nat) : Wrote w (w'.setCell ⟨g, i, none⟩ (.int .u8 (d : Int))) g (bs.set i d) := by
  refine ⟨?_, by simp [World.setCell]; exact h.size, ⟨h.rest.os, h.rest.tape, h.rest.output, by simp [World.setCell]; exact h.rest.size, fun k hk hne => ?_⟩⟩
  · rw [← cellsOf_set]; exact block_set h.block i _
  · rw [Below.heap_setCell _ _ _ _ (by intro e; exact hne (by rw [e]))]; exact h.rest.block k hk hne
theorem Wrote.below {w w' : World} {g : Nat} {bs : List Nat} (h : Wrote w w' g bs) {B : Nat} (hB : B ≤ g) : Below B w w' :=
  ⟨h.rest.os, h.rest.tape, h.rest.output, h.rest.size, fun k hk => by
    by_cases hl : k < w.heap.size
    · exact h.rest.block k hl (by intro e; cases e; omega)
    · rw [Array.getElem?_eq_none (by rw [h.size]; omega), Array.getElem?_eq_none (by omega)]⟩
theorem Wrote.trans {a b c : World} {g : Nat} {bs cs : List Nat} (h : Wrote a b g bs) (k : Wrote b c g cs) : Wrote a c g cs :=
  ⟨k.block, k.size.trans h.size, ⟨k.rest.os.trans h.rest.os, k.rest.tape.trans h.rest.tape, k.rest.output.trans h.rest.output, Nat.le_trans h.rest.size k.rest.size, fun i hi hne => (k.rest.block i (by rw [h.size]; exact hi) hne).trans (h.rest.block i hi hne)⟩⟩

set_option maxHeartbeats 400000 in
theorem put_any (g off cap n v : Nat) (L : List Nat) (w : World) (hn : 1 ≤ n) (hn8 : n ≤ 8) (hv : v < 18446744073709551616) (hL : off + n ≤ L.length) (h : w.heap[g]? = some (.cells (cellsOf L).toArray 5 (0, 0))) :
    Calls Try.prog 40 #[.slice (some ⟨g, off, none⟩) n cap, .int .u64 v] w fun e w' => e = .returned (.tuple #[]) ∧ Wrote w w' g (overB L off n v 0) := by
  have HW := Lib.hid (Wrote.refl h)
  clear h
  go_enter Try.func40, Try.ntmps40
  go_wp2_with fail
  go_loopg [1, 4] n (fun m x i wr => ∃ (y : Nat) (j : Int), m ≤ n ∧ x = .int .u64 y ∧ y < 18446744073709551616 ∧ i = .int .i64 j ∧ j = (m : Int) - 1 ∧ Hid (y = v / 256 ^ (n - m)) ∧ Hid (Wrote w wr g (overB L off n v m)))
  case atStart => exact ⟨v, (n : Int) - 1, Nat.le_refl _, rfl, hv, rfl, rfl, by rw [Nat.sub_self]; exact (Nat.div_one v).symm, by rw [overB_n]; exact HW.out⟩
  case round =>
    obtain ⟨y, j, hm, rfl, hy, rfl, hj, hyv, hw⟩ := hrel
    by_cases h0 : gk = 0
    · subst h0
      have hj1 : j < 0 := by omega
      have HW2 := Lib.hid hw.out
      clear hw hyv hj
      go_wp2
      go_end0
      exact ⟨rfl, HW2.out⟩
    · obtain ⟨m, hm1⟩ : ∃ m, gk = m + 1 := ⟨gk - 1, by omega⟩
      obtain rfl : j = (m : Int) := by omega
      rw [hm1] at hyv hw
      have hmn : (m : Int) < (n : Int) := by omega
      have HG := Lib.hid hm1
      clear hm1 hj hm h0
      have hc := (block_cell hw.out.block (off + m)).trans (cellsOf_at _ (by rw [overB_length hL (by omega)]; omega))
      have hf := block_free hw.out.block (off + m)
      have hwr := wrap_u8 y
      have hd : y % 256 = v / 256 ^ (n - 1 - m) % 256 := by rw [hyv.out, show n - (m + 1) = n - 1 - m by omega]
      have HD := Lib.hid hd
      clear hd
      have HY : Hid (y / 256 = v / 256 ^ (n - m)) := by
        show y / 256 = v / 256 ^ (n - m)
        rw [hyv.out]; exact div_pow_step v n m (by omega)
      generalize y % 256 = d at hwr HD
      generalize (overB L off n v (m + 1)).getD (off + m) 0 = o at hc
      go_wp2
      go_roundg m
      case measure => have := HG.out; omega
      case rel => exact ⟨y / 256, (m : Int) - 1, by omega, by go_num, by omega, rfl, rfl, HY.out, by
        have := hw.out.set (off + m) d
        rw [HD.out, overB_step hL (by omega), ← HD.out] at this
        exact this⟩
end Go.Proofs.Ythmmhbeafbdglaa
