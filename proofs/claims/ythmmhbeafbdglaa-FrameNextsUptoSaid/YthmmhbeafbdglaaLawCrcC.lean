import Derived.Test.YthmmhbeafbdglaaLawCrcB
import Derived.Deep.QuietTactic
import Derived.BigQuiet
namespace Go.Proofs.Ythmmhbeafbdglaa
open Go.RowKit
theorem heap_new3 (w : World) (o p q r : Obj) : ((((w.alloc o).alloc p).alloc q).alloc r).heap[w.heap.size + 1 + 1 + 1]? = some r := by
  have h := heap_alloc_new (((w.alloc o).alloc p).alloc q) r
  simpa using h
/-- the sum of parts that a row of the call's own holds -/
theorem sum_row (ps : List Part) (w : World) (hlen : ps.length ≤ 9223372036854775807) (hps : ∀ p ∈ ps, PartOk w p) :
    Calls Try.prog 15 #[.slice (some ⟨w.heap.size, 0, none⟩) ps.length ps.length] (w.alloc (.cells (ps.map Part.val).toArray 28)) fun e w' => e = .returned (.int .u32 (sumL (ps.map Part.bs) : Nat)) ∧ Below w.heap.size w w' := by
  have hb : Below w.heap.size w (w.alloc (.cells (ps.map Part.val).toArray 28)) := (Below.refl _ _).alloc (Nat.le_refl _) _
  refine (sum_any _ _ ps _ hlen (PartsAt.of_block (heap_alloc_new _ _) rfl) (fun p hp => (hps p hp).below hb)).mono ?_
  rintro e w' ⟨rfl, hb'⟩
  exact ⟨rfl, hb.trans (hb'.mono hb.size)⟩
theorem sum_one (A : Option Addr) (cap : Nat) (bs : List Nat) (w : World) (g : BytesIn w A cap bs) :
    Calls Try.prog 15 #[.slice (some ⟨w.heap.size, 0, none⟩) 1 1] (w.alloc (.cells #[.slice A bs.length cap] 28)) fun e w' => e = .returned (.int .u32 (sumL [bs] : Nat)) ∧ Below w.heap.size w w' :=
  sum_row [⟨A, cap, bs⟩] w (by simp) (by intro p hp; simp at hp; subst hp; exact g.part)
theorem sum_two (A : Option Addr) (cap : Nat) (bs : List Nat) (A' : Option Addr) (cap' : Nat) (bs' : List Nat) (w : World) (g : BytesIn w A cap bs) (g' : BytesIn w A' cap' bs') :
    Calls Try.prog 15 #[.slice (some ⟨w.heap.size, 0, none⟩) 2 2] (w.alloc (.cells #[.slice A bs.length cap, .slice A' bs'.length cap'] 28)) fun e w' => e = .returned (.int .u32 (sumL [bs, bs'] : Nat)) ∧ Below w.heap.size w w' :=
  sum_row [⟨A, cap, bs⟩, ⟨A', cap', bs'⟩] w (by simp) (by intro p hp; simp at hp; rcases hp with rfl | rfl; exact g.part; exact g'.part)
theorem sum_three (A : Option Addr) (cap : Nat) (bs : List Nat) (A' : Option Addr) (cap' : Nat) (bs' : List Nat) (A2 : Option Addr) (cap2 : Nat) (bs2 : List Nat) (w : World) (g : BytesIn w A cap bs) (g' : BytesIn w A' cap' bs') (g2 : BytesIn w A2 cap2 bs2) :
    Calls Try.prog 15 #[.slice (some ⟨w.heap.size, 0, none⟩) 3 3] (w.alloc (.cells #[.slice A bs.length cap, .slice A' bs'.length cap', .slice A2 bs2.length cap2] 28)) fun e w' => e = .returned (.int .u32 (sumL [bs, bs', bs2] : Nat)) ∧ Below w.heap.size w w' :=
  sum_row [⟨A, cap, bs⟩, ⟨A', cap', bs'⟩, ⟨A2, cap2, bs2⟩] w (by simp) (by intro p hp; simp at hp; rcases hp with rfl | rfl | rfl; exact g.part; exact g'.part; exact g2.part)

/-! ### the plain laws -/
theorem inv_inv (x : Nat) (h : x < 4294967296) : Crc.inv (Crc.inv x) = x := by unfold Crc.inv; omega
theorem sum1 (b : List Nat) : sumL [b] = Crc.inv (Crc.run (Crc.inv 0) b) := rfl
/-- a sum, of more bytes -/
def more (s : Nat) (b : List Nat) : Nat := Crc.inv (Crc.run (Crc.inv s) b)
theorem more_append (s : Nat) (a b : List Nat) (hb : AllBytes a) : more (more s a) b = more s (a ++ b) := by
  unfold more
  rw [inv_inv _ (Crc.run_lt a (inv_lt s) hb), Crc.run_append]
theorem sum_eq (b : List Nat) : sumL [b] = more 0 b := rfl
theorem sum_eq2 (a b : List Nat) : sumL [a, b] = more (more 0 a) b := rfl
theorem sum_eq3 (a b c : List Nat) : sumL [a, b, c] = more (more (more 0 a) b) c := rfl
theorem xor_c (a b : Nat) : a ^^^ b ^^^ b = a := by rw [Nat.xor_assoc, Nat.xor_self, Nat.xor_zero]
theorem halves_inv (n x : Nat) (h : x < 4294967296) : Crc.halves n (Crc.inv x) = Crc.halves n x ^^^ Crc.halves n 4294967295 := by rw [Crc.inv_xor h, Crc.halves_xor]
/-- a sum joined with that of more bytes is the sum of both -/
theorem joined_more (s : Nat) (b : List Nat) (hs : s < 4294967296) (hb : AllBytes b) : joined s (more 0 b) b.length = more s b := by
  unfold joined
  by_cases h0 : b = []
  · subst h0
    show s = Crc.inv (Crc.inv s)
    rw [inv_inv s hs]
  · have hl : ¬ ((b.length : Nat) : Int) < 1 := by have := List.length_pos_iff.2 h0; omega
    rw [if_neg hl]
    simp only [Int.toNat_natCast]
    have h1 : Crc.run (Crc.inv s) b = Crc.halves (8 * b.length) (Crc.inv s) ^^^ Crc.run 0 b := by have := Crc.run_lin b (Crc.inv s) 0; rwa [Nat.xor_zero] at this
    have h2 : Crc.run (Crc.inv 0) b = Crc.halves (8 * b.length) (Crc.inv 0) ^^^ Crc.run 0 b := by have := Crc.run_lin b (Crc.inv 0) 0; rwa [Nat.xor_zero] at this
    have l1 := Crc.run_lt b (inv_lt s) hb
    have l2 := Crc.run_lt b (inv_lt 0) hb
    unfold more
    rw [Crc.inv_xor l1, Crc.inv_xor l2, h1, h2, halves_inv _ s hs, show Crc.inv 0 = 4294967295 from rfl]
    generalize Crc.halves (8 * b.length) s = p
    generalize Crc.halves (8 * b.length) 4294967295 = q
    generalize Crc.run 0 b = r
    rw [Nat.xor_assoc p q, Nat.xor_assoc p]
theorem more_lt (s : Nat) (b : List Nat) : more s b < 4294967296 := inv_lt _
/-- the address of what begins k places on -/
def subA (A : Option Addr) (k cap : Nat) : Option Addr := if cap = k then A else A.map (·.add k)
theorem slice_from (A : Option Addr) (len cap k : Nat) (hk : k ≤ len) (w : World) :
    (Instr.sliceAt 28 (.slice A len cap) (some (.int .i64 (k : Int))) none none).run Try.prog w = .ok (.slice (subA A k cap) (len - k) (cap - k)) w := by
  have ht : Try.prog.underlying 28 = some (.slice (Try.prog.elem 28)) := by kernel_rfl
  have hs : (sizeOf (Try.prog.elem 28)).run Try.prog w = .ok 1 w := by kernel_rfl
  rw [run_sliceAt_slice w _ _ _ _ _ ht, run_slice_l w _ A len cap ht .i64 (k : Int) (by omega) (by omega), hs]
  simp [sliced, subA, Result.andThen]
theorem slice_to (A : Option Addr) (len cap k : Nat) (hk : k ≤ cap) (w : World) :
    (Instr.sliceAt 28 (.slice A len cap) none (some (.int .i64 (k : Int))) none).run Try.prog w = .ok (.slice (subA A 0 cap) k cap) w := by
  have ht : Try.prog.underlying 28 = some (.slice (Try.prog.elem 28)) := by kernel_rfl
  have hs : (sizeOf (Try.prog.elem 28)).run Try.prog w = .ok 1 w := by kernel_rfl
  rw [run_sliceAt_slice w _ _ _ _ _ ht, run_slice_h w _ A len cap ht .i64 (k : Int) (by omega) (by omega), hs]
  simp [sliced, subA, Result.andThen]
theorem addr_add (b off i : Nat) : (⟨b, off, none⟩ : Addr).add i = ⟨b, off + i, none⟩ := by unfold Addr.add; split <;> simp_all
theorem BytesAt.drop {w : World} {A : Option Addr} {bs : List Nat} (h : BytesAt w A bs) (k cap : Nat) (hc : bs.length ≤ cap) : BytesAt w (subA A k cap) (bs.drop k) := by
  by_cases hk : k < bs.length
  · rcases h with h | ⟨b, off, h1, h2, h3⟩
    · subst h; simp at hk
    · refine Or.inr ⟨b, off + k, ?_, h2, fun i hi => ?_⟩
      · unfold subA; rw [if_neg (by omega), h1]; simp [addr_add]
      · have hi' : k + i < bs.length := by simp at hi; omega
        have := h3 (k + i) hi'
        rw [show off + k + i = off + (k + i) by omega, this]
        simp [List.getD_eq_getElem?_getD, List.getElem?_drop]
  · left; exact List.drop_eq_nil_of_le (by omega)
theorem BytesAt.take {w : World} {A : Option Addr} {bs : List Nat} (h : BytesAt w A bs) (k cap : Nat) : BytesAt w (subA A 0 cap) (bs.take k) := by
  rcases h with h | ⟨b, off, h1, h2, h3⟩
  · left; subst h; simp
  · by_cases h0 : bs.take k = []
    · exact Or.inl h0
    · refine Or.inr ⟨b, off, ?_, h2, fun i hi => ?_⟩
      · unfold subA; split
        · exact h1
        · rw [h1]; simp [addr_add]
      · have hi' : i < k ∧ i < bs.length := by simp at hi; omega
        rw [h3 i hi'.2]
        simp [List.getD_eq_getElem?_getD, hi'.1]
theorem BytesIn.drop {w : World} {A : Option Addr} {cap : Nat} {bs : List Nat} (g : BytesIn w A cap bs) (k : Nat) : BytesIn w (subA A k cap) (cap - k) (bs.drop k) :=
  ⟨g.bytes.drop k, g.at_.drop k cap g.cap, by have := g.cap; simp; omega, by have := g.len; simp; omega, fun h => by
    have h0 : A = none := by unfold subA at h; split at h; exact h; simpa using h
    have := g.nil_ h0; omega⟩
theorem BytesIn.take {w : World} {A : Option Addr} {cap : Nat} {bs : List Nat} (g : BytesIn w A cap bs) (k : Nat) : BytesIn w (subA A 0 cap) cap (bs.take k) :=
  ⟨g.bytes.take k, g.at_.take k cap, by have := g.cap; simp; omega, by have := g.len; simp; omega, fun h => by
    have h0 : A = none := by unfold subA at h; split at h; exact h; simpa using h
    exact g.nil_ h0⟩

set_option maxHeartbeats 1000000 in
theorem cuts_core (w : World) (A : Option Addr) (cap : Nat) (bs : List Nat) (AX : Option Addr) (cx : Nat) (x : List Nat) (AY : Option Addr) (cy : Nat) (y : List Nat) (a t : Int) (g : BytesIn w A cap bs) (gx : BytesIn w AX cx x) (gy : BytesIn w AY cy y)
    (HC : Hid (bs = x ++ y)) (hl : bs.length ≤ 140737488351232) (ha : -9223372036854775808 ≤ a ∧ a ≤ 9223372036854775807) (hyl : y.length ≤ 140737488351232)
    (hs1 : ∀ w, (Instr.sliceAt 28 (.slice A bs.length cap) (some (.int .i64 (x.length : Int))) none none).run Try.prog w = .ok (.slice AY y.length cy) w)
    (hs2 : ∀ w, (Instr.sliceAt 28 (.slice A bs.length cap) none (some (.int .i64 (x.length : Int))) none).run Try.prog w = .ok (.slice AX x.length cx) w)
    (ht : a.tmod ((bs.length : Int) + 1) = t) (ht1 : -(bs.length : Int) ≤ t) (ht2 : t ≤ (bs.length : Int)) (hk : (t + (bs.length : Int) + 1) % ((bs.length : Int) + 1) = (x.length : Int)) (hk2 : (x.length : Int) ≤ (bs.length : Int)) :
    Calls Try.prog 7 #[.slice A bs.length cap, .int .i64 a] w (LawPost w) := by
  have H1 : Hid (sumL [x, y] = sumL [bs]) := by
    show sumL [x, y] = sumL [bs]
    rw [sum_eq2, sum_eq, more_append 0 x y gx.bytes, HC.out]
  have H2 : Hid (Crc.inv (Crc.run (Crc.inv (sumL [x])) y) = sumL [bs]) := by
    show more (more 0 x) y = more 0 bs
    rw [more_append 0 x y gx.bytes, HC.out]
  have H3 : Hid (joined (sumL [x]) (sumL [y]) (y.length : Nat) = sumL [bs]) := by
    show joined (more 0 x) (more 0 y) (y.length : Nat) = more 0 bs
    rw [joined_more _ y (more_lt 0 x) gy.bytes, more_append 0 x y gx.bytes, HC.out]
  have lx := sumL_lt [x]
  have ly := sumL_lt [y]
  obtain ⟨S, HS⟩ : ∃ S, Hid (sumL [bs] = S) := ⟨_, rfl⟩
  rw [HS.out] at H1 H2 H3
  go_enter Try.func7, Try.ntmps7
  go_wp2_with fail
  go_quiet (fail)
  go_wp2_with fail
  have HB0 : Hid (Below w.heap.size w (w.drewN nq)) := below_drewN (Below.refl _ _) nq
  refine (sum_one A cap bs (w.drewN nq) (g.below HB0.out)).mono ?_
  rintro e w1 ⟨rfl, hb⟩
  rw [HS.out]
  have B1 := Lib.hid (HB0.out.trans (hb.mono HB0.out.size))
  clear hb
  go_wp2_with fail
  refine (sum_two AX cx x AY cy y w1 (gx.below B1.out) (gy.below B1.out)).mono ?_
  rintro e w2 ⟨rfl, hb⟩
  rw [H1.out]
  have B2 := Lib.hid (B1.out.trans (hb.mono B1.out.size))
  clear hb
  go_wp2_with fail
  refine (sum_one AX cx x w2 (gx.below B2.out)).mono ?_
  rintro e w3 ⟨rfl, hb⟩
  have B3 := Lib.hid (B2.out.trans (hb.mono B2.out.size))
  clear hb
  go_wp2_with fail
  refine (add_any _ AY cy y w3 lx gy.bytes gy.len (gy.at_.below B3.out)).mono ?_
  rintro e w4 ⟨rfl, hb⟩
  rw [H2.out]
  have B4 := Lib.hid (B3.out.trans (hb.mono B3.out.size))
  clear hb
  go_wp2_with fail
  refine (sum_one AX cx x w4 (gx.below B4.out)).mono ?_
  rintro e w5 ⟨rfl, hb⟩
  have B5 := Lib.hid (B4.out.trans (hb.mono B4.out.size))
  clear hb
  go_wp2_with fail
  refine (sum_one AY cy y w5 (gy.below B5.out)).mono ?_
  rintro e w6 ⟨rfl, hb⟩
  have B6 := Lib.hid (B5.out.trans (hb.mono B5.out.size))
  clear hb
  go_wp2_with fail
  refine (joined_any _ _ _ _ lx ly (by omega)).mono ?_
  rintro e w7 ⟨rfl, rfl⟩
  rw [H3.out]
  go_wp2_with fail
  refine (calive_any _).mono ?_
  rintro e w8 ⟨rfl, hb⟩
  have B8 := Lib.hid (B6.out.trans (hb.mono B6.out.size))
  clear hb
  go_wp2_with fail
  go_ret
  exact ⟨rfl, B8.out⟩

theorem law_CrcCuts (w : World) (A : Option Addr) (cap : Nat) (bs : List Nat) (g : BytesIn w A cap bs) (hl : bs.length ≤ 140737488351232) (a : Int) (ha : -9223372036854775808 ≤ a ∧ a ≤ 9223372036854775807) :
    Calls Try.prog 7 #[.slice A bs.length cap, .int .i64 a] w (LawPost w) := by
  have h1 := Int.lt_tmod_of_pos a (show (0 : Int) < (bs.length : Int) + 1 by omega)
  have h2 := Int.tmod_lt_of_pos a (show (0 : Int) < (bs.length : Int) + 1 by omega)
  obtain ⟨k, hk, hk2⟩ : ∃ k : Nat, (a.tmod ((bs.length : Int) + 1) + (bs.length : Int) + 1) % ((bs.length : Int) + 1) = (k : Int) ∧ k ≤ bs.length := by
    have h3 := Int.emod_nonneg (a.tmod ((bs.length : Int) + 1) + (bs.length : Int) + 1) (show (bs.length : Int) + 1 ≠ 0 by omega)
    have h4 := Int.emod_lt_of_pos (a.tmod ((bs.length : Int) + 1) + (bs.length : Int) + 1) (show (0 : Int) < (bs.length : Int) + 1 by omega)
    exact ⟨_, (Int.toNat_of_nonneg h3).symm, by omega⟩
  have e1 : (bs.take k).length = k := by simp; omega
  have e2 : (bs.drop k).length = bs.length - k := by simp
  refine cuts_core w A cap bs _ _ (bs.take k) _ _ (bs.drop k) a _ g (g.take k) (g.drop k) (List.take_append_drop k bs).symm hl ha (by omega) ?_ ?_ rfl (by omega) (by omega) (by rw [e1]; exact hk) (by omega)
  · intro w; rw [e1, e2]; exact slice_from A bs.length cap k hk2 w
  · intro w; rw [e1]; exact slice_to A bs.length cap k (by have := g.cap; omega) w
end Go.Proofs.Ythmmhbeafbdglaa
