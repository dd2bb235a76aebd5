import Derived.Test.YthmmhbeafbdglaaCrcRef
namespace Go.Proofs.Ythmmhbeafbdglaa
open Go.RowKit
/-- a part: where its bytes lie, how many places it has, its bytes -/
structure Part where
  A : Option Addr
  cap : Nat
  bs : List Nat
instance : Inhabited Part := ⟨⟨none, 0, []⟩⟩
def Part.val (p : Part) : Value := .slice p.A p.bs.length p.cap
structure PartOk (w : World) (p : Part) : Prop where
  bytes : AllBytes p.bs
  len : p.bs.length ≤ 9223372036854775807
  at_ : BytesAt w p.A p.bs
  cap : p.bs.length ≤ p.cap
  nil_ : p.A = none → p.cap = 0
def PartsAt (w : World) (A : Option Addr) (ps : List Part) : Prop :=
  ps = [] ∨ ∃ b off, A = some ⟨b, off, none⟩ ∧ b < w.heap.size ∧ ∀ i : Nat, i < ps.length → w.cell? ⟨b, off + i, none⟩ = some (ps.getD i default).val
theorem BytesAt.below {w w' : World} {A : Option Addr} {bs : List Nat} (h : BytesAt w A bs) (hb : Below w.heap.size w w') : BytesAt w' A bs := by
  rcases h with h | ⟨b, off, h1, h2, h3⟩
  · exact Or.inl h
  · exact Or.inr ⟨b, off, h1, Nat.lt_of_lt_of_le h2 hb.size, fun i hi => (hb.cell (p := ⟨b, off + i, none⟩) h2).trans (h3 i hi)⟩
theorem PartOk.below {w w' : World} {p : Part} (h : PartOk w p) (hb : Below w.heap.size w w') : PartOk w' p := ⟨h.bytes, h.len, h.at_.below hb, h.cap, h.nil_⟩
/-- what 'Sum' answers -/
def sumL (ls : List (List Nat)) : Nat := ls.foldl (fun x b => Crc.inv (Crc.run (Crc.inv x) b)) 0
theorem sumL_lt (ls : List (List Nat)) : sumL ls < 4294967296 := by
  unfold sumL
  have : ∀ (ls : List (List Nat)) (x : Nat), x < 4294967296 → ls.foldl (fun x b => Crc.inv (Crc.run (Crc.inv x) b)) x < 4294967296 := by
    intro ls
    induction ls with
    | nil => exact fun _ h => h
    | cons a l ih => exact fun x _ => ih _ (inv_lt _)
  exact this ls 0 (by omega)
theorem sumL_snoc (ps : List Part) (k : Nat) (h : k < ps.length) : sumL ((ps.take (k + 1)).map Part.bs) = Crc.inv (Crc.run (Crc.inv (sumL ((ps.take k).map Part.bs))) (ps.getD k default).bs) := by
  rw [take_snoc ps k default h, List.map_append, sumL, List.foldl_append]; rfl
theorem parts_cell {w : World} {A : Option Addr} {ps : List Part} (h : PartsAt w A ps) {k : Nat} (hk : k < ps.length) :
    ∃ b off, A = some ⟨b, off, none⟩ ∧ b < w.heap.size ∧ w.cell? ⟨b, off + k, none⟩ = some (ps.getD k default).val := by
  rcases h with h | ⟨b, off, h1, h2, h3⟩
  · subst h; simp at hk
  · exact ⟨b, off, h1, h2, h3 k hk⟩

set_option maxHeartbeats 400000 in
theorem sum_any (A : Option Addr) (cap : Nat) (ps : List Part) (w : World) (hlen : ps.length ≤ 9223372036854775807) (hA : PartsAt w A ps) (hps : ∀ p ∈ ps, PartOk w p) :
    Calls Try.prog 15 #[.slice A ps.length cap] w fun e w' => e = .returned (.int .u32 (sumL (ps.map Part.bs) : Nat)) ∧ Below w.heap.size w w' := by
  go_enter Try.func15, Try.ntmps15
  go_wp2_with fail
  go_loopw [3, 8] (fun x i wr => ∃ k : Nat, k ≤ ps.length ∧ i = .int .i64 k ∧ x = .int .u32 (sumL ((ps.take k).map Part.bs) : Nat) ∧ Below w.heap.size w wr) (fun _ i _ => ps.length - (intOf i).toNat)
  case atStart => exact ⟨0, Nat.zero_le _, rfl, rfl, Below.refl _ _⟩
  case round =>
    obtain ⟨k, hk, rfl, rfl, hnx⟩ := hrel
    have hsl := sumL_lt ((ps.take k).map Part.bs)
    by_cases hlt : k < ps.length
    · have HS := Lib.hid (sumL_snoc ps k hlt)
      obtain ⟨b, off, rfl, hbl, hc⟩ := parts_cell hA hlt
      have hok : PartOk wr (ps.getD k default) := (hps _ (by rw [List.getD_eq_getElem?_getD, List.getElem?_eq_getElem hlt]; exact List.getElem_mem hlt)).below hnx
      have hc := (hnx.cell (p := ⟨b, off + k, none⟩) hbl).trans hc
      clear hA
      generalize ps.getD k default = p at HS hok hc
      obtain ⟨pA, pc, pb⟩ := p
      generalize sumL ((ps.take k).map Part.bs) = m at HS hsl ⊢
      have hc : wr.cell? ⟨b, off + k, none⟩ = some (.slice pA pb.length pc) := hc
      go_wp2_with (go_at_call 18; refine (add_any _ _ _ _ _ hsl hok.bytes hok.len hok.at_).mono ?_; rintro e w2 ⟨rfl, hb2⟩)
      go_roundw
      case rel => exact ⟨k + 1, by omega, by go_num, by rw [HS.out], hnx.trans (hb2.mono hnx.size)⟩
      case measure => simp [intOf]; omega
    · obtain rfl : k = ps.length := by omega
      rw [List.take_length]
      go_wp2
      go_ret
      exact ⟨rfl, hnx⟩

set_option maxHeartbeats 400000 in
theorem rsum_any (A : Option Addr) (cap : Nat) (ps : List Part) (w : World) (hlen : ps.length ≤ 9223372036854775807) (hA : PartsAt w A ps) (hps : ∀ p ∈ ps, PartOk w p) :
    Calls Try.prog 16 #[.slice A ps.length cap] w fun e w' => e = .returned (.int .u32 (sumL (ps.map Part.bs) : Nat)) ∧ w = w' := by
  go_enter Try.func16, Try.ntmps16
  go_wp2_with fail
  go_loop [3, 4] (fun x i => ∃ k : Nat, k ≤ ps.length ∧ i = .int .i64 k ∧ x = .int .u32 (sumL ((ps.take k).map Part.bs) : Nat)) (fun _ i => ps.length - (intOf i).toNat)
  case atStart => exact ⟨0, Nat.zero_le _, rfl, rfl⟩
  case round =>
    obtain ⟨k, hk, rfl, rfl⟩ := hrel
    have hsl := sumL_lt ((ps.take k).map Part.bs)
    by_cases hlt : k < ps.length
    · have HS := Lib.hid (sumL_snoc ps k hlt)
      obtain ⟨b, off, rfl, hbl, hc⟩ := parts_cell hA hlt
      have hok : PartOk w (ps.getD k default) := (hps _ (by rw [List.getD_eq_getElem?_getD, List.getElem?_eq_getElem hlt]; exact List.getElem_mem hlt))
      clear hA
      generalize ps.getD k default = p at HS hok hc
      obtain ⟨pA, pc, pb⟩ := p
      generalize sumL ((ps.take k).map Part.bs) = m at HS hsl ⊢
      have hc : w.cell? ⟨b, off + k, none⟩ = some (.slice pA pb.length pc) := hc
      go_wp2_with (go_at_call 19; refine (radd_any _ _ _ _ _ hsl hok.bytes hok.len hok.at_).mono ?_; rintro e w2 ⟨rfl, rfl⟩)
      go_round
      case rel => exact ⟨k + 1, by omega, by go_num, by rw [HS.out]⟩
      case measure => simp [intOf]; omega
    · obtain rfl : k = ps.length := by omega
      rw [List.take_length]
      go_wp2
      go_ret
      exact ⟨rfl, rfl⟩
end Go.Proofs.Ythmmhbeafbdglaa
