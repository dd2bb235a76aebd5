import Derived.Test.YthmmhbeafbdglaaFrRPutBad
import Derived.Lib.SmallJoins
namespace Go.Proofs.Ythmmhbeafbdglaa
open Go.RowKit Go.ChangeShapes Go.WideShapes Go.ChangeAt
/-- a frame that came in -/
structure FrameV where
  seq : Int
  A : Option Addr
  cap : Nat
  bs : List Nat
def FrameV.val (x : FrameV) : Value := .agg #[.int .i64 x.seq, .slice x.A x.bs.length x.cap]
structure FrameIn (w : World) (x : FrameV) : Prop where
  lo : -9223372036854775808 ≤ x.seq
  hi : x.seq ≤ 9223372036854775807
  into : BytesIn w x.A x.cap x.bs
theorem open_frame {H : Type} {enc : TypeId × Value → H} {w : World} {b0 : Nat} {v : Value} {d : DataW H} {p : List MemPlace} (hv : Value.okWide Try.prog w .any b0 37 v) (h : DataW.Trod enc Try.prog w 0 (fun _ => true) true 37 v d p) :
    ∃ x : FrameV, v = x.val ∧ FrameIn w x := by
  have hC : Try.prog.cellsOf 37 = 2 := by kernel_rfl
  obtain ⟨c0, c1, y0, y1, n, rfl, _, _, h0, h1⟩ := Joins.open_agg2 Try.underlying37 (by kernel_rfl) hC hv h
  obtain ⟨z, e0, _, hw⟩ := DataW.trod_int Try.underlying3 h0
  simp at e0
  subst e0
  have hb := i64_of_wf hw
  rcases open_ints Try.underlying28 Try.underlying5 (by kernel_rfl) h1 with ⟨hcs, _⟩ | ⟨x, l, c, zs, hcs, _, hl, hm, hz, hx, hcell, hwz⟩
  · simp at hcs
    subst hcs
    exact ⟨⟨z, none, 0, []⟩, rfl, hb.1, hb.2, (fun c hc => by cases hc), Or.inl rfl, Nat.le_refl _, Nat.zero_le _, fun _ => rfl⟩
  · simp at hcs
    subst hcs
    have hlz : l ≤ zs.length := by split at hz <;> omega
    obtain ⟨g1, g2⟩ := bytesAt_of_ints hlz hcell hwz
    have hln : ((zs.take l).map Int.toNat).length = l := by simp; omega
    refine ⟨⟨z, some x, c, (zs.take l).map Int.toNat⟩, ?_, hb.1, hb.2, g1, g2, by show ((zs.take l).map Int.toNat).length ≤ c; rw [hln]; exact hl, by show ((zs.take l).map Int.toNat).length ≤ _; rw [hln]; unfold maxLen at hm; omega, fun h => by cases h⟩
    unfold FrameV.val
    simp only [hln]

set_option maxHeartbeats 400000 in
theorem puts_bad (w : World) (seq : Int) (A : Option Addr) (cap n : Nat) (k : Nat)
    (hP : ∀ W, Calls Try.prog 22 #[.agg #[.int .i64 seq, .slice A n cap]] W fun e w' => e = .returned (.tuple #[.slice none 0 0, .int .i64 (k : Nat)]) ∧ Below W.heap.size W w')
    (hR : ∀ W, Calls Try.prog 24 #[.agg #[.int .i64 seq, .slice A n cap]] W fun e w' => e = .returned (.tuple #[.slice none 0 0, .int .i64 (k : Nat)]) ∧ Below W.heap.size W w') :
    Calls Try.prog 9 #[.agg #[.int .i64 seq, .slice A n cap]] w (LawPost w) := by
  have HP := Lib.hid hP
  have HR := Lib.hid hR
  clear hP hR
  have hx : ∀ W : World, (convert 28 9 (.slice none 0 0)).run Try.prog W = .ok (.string (strOf [])) W := fun W => conv_bytes none 0 [] W (Or.inl rfl)
  generalize strOf [] = s at hx
  have HB0 : Hid (∀ o : Obj, Below w.heap.size w (w.alloc o)) := fun o => (Below.refl _ _).alloc (Nat.le_refl _) _
  have hcx := heap_alloc_new w (Obj.cells #[.int .i64 seq, .slice A n cap] 37)
  have HCX := Lib.hid hcx
  clear hcx
  go_enter Try.func9, Try.ntmps9
  go_wp2_with fail
  refine (theirs_any _ _ _ _ _).mono ?_
  rintro e w1 ⟨rfl, hb⟩
  have B1 := Lib.hid ((HB0.out _).trans (hb.mono (HB0.out _).size))
  have hbx := (hb.block w.heap.size (by simp)).trans HCX.out
  have HX1 := Lib.hid hbx
  clear hb hbx
  go_wp2_with fail
  refine (HP.out _).mono ?_
  rintro e w2 ⟨rfl, hb⟩
  have B2 := Lib.hid (B1.out.trans (hb.mono B1.out.size))
  have hbx := (hb.block w.heap.size (block_lt HX1.out)).trans HX1.out
  have hc0 : w2.cell? ⟨w.heap.size, 0, none⟩ = some (.int .i64 seq) := block_cell hbx 0
  have hc1 : w2.cell? ⟨w.heap.size, 1, none⟩ = some (.slice A n cap) := block_cell hbx 1
  clear hb hbx
  go_wp2_with fail
  refine (HR.out _).mono ?_
  rintro e w3 ⟨rfl, hb⟩
  have B3 := Lib.hid (B2.out.trans (hb.mono B2.out.size))
  clear hb hc0 hc1
  go_wp2_with fail
  refine (falive_any _).mono ?_
  rintro e w4 ⟨rfl, hb⟩
  have B4 := Lib.hid (B3.out.trans (hb.mono B3.out.size))
  clear hb
  go_wp2_with fail
  go_ret
  exact ⟨rfl, B4.out⟩

set_option maxHeartbeats 1000000 in
theorem puts_ok (w : World) (seq : Nat) (A : Option Addr) (cap : Nat) (d : List Nat) (h1 : 1 ≤ seq) (h2 : seq ≤ 4611686018427387904) (g : BytesIn w A cap d) (hl : d.length ≤ 262144) :
    Calls Try.prog 9 #[.agg #[.int .i64 seq, .slice A d.length cap]] w (LawPost w) := by
  have HB0 : Hid (∀ o : Obj, Below w.heap.size w (w.alloc o)) := fun o => (Below.refl _ _).alloc (Nat.le_refl _) _
  have hcx := heap_alloc_new w (Obj.cells #[.int .i64 seq, .slice A d.length cap] 37)
  have HCX := Lib.hid hcx
  clear hcx
  go_enter Try.func9, Try.ntmps9
  go_wp2_with fail
  refine (theirs_any _ _ _ _ _).mono ?_
  rintro e w1 ⟨rfl, hb⟩
  have B1 := Lib.hid ((HB0.out _).trans (hb.mono (HB0.out _).size))
  have hbx := (hb.block w.heap.size (by simp)).trans HCX.out
  have HX1 := Lib.hid hbx
  clear hb hbx
  go_wp2_with fail
  refine (fput_ok seq A cap d w1 h1 h2 (g.below B1.out) hl).mono ?_
  rintro e w2 ⟨v2, rfl, ho2, hb⟩
  obtain ⟨A2, C2, rfl, O2⟩ := own_in ho2 (frameB_bytes seq d g.bytes)
  have G2 := Lib.hid O2
  have B2 := Lib.hid (B1.out.trans (hb.mono B1.out.size))
  have hbx := (hb.block w.heap.size (block_lt HX1.out)).trans HX1.out
  have hc0 : w2.cell? ⟨w.heap.size, 0, none⟩ = some (.int .i64 seq) := block_cell hbx 0
  have hc1 : w2.cell? ⟨w.heap.size, 1, none⟩ = some (.slice A d.length cap) := block_cell hbx 1
  clear hb hbx ho2 O2
  go_wp2_with fail
  refine (rput_ok seq A cap d w2 h1 h2 (g.below B2.out) hl).mono ?_
  rintro e w3 ⟨v3, rfl, ho3, hb⟩
  obtain ⟨A3, C3, rfl, O3⟩ := own_in ho3 (frameB_bytes seq d g.bytes)
  have B3 := Lib.hid (B2.out.trans (hb.mono B2.out.size))
  have hx2 := conv_bytes A2 C2 _ w3 (G2.out.below hb).at_
  have hx3 := conv_bytes A3 C3 _ w3 O3.at_
  clear hb hc0 hc1 ho3 O3
  generalize strOf (frameB seq d) = s at hx2 hx3
  go_wp2_with fail
  refine (falive_any _).mono ?_
  rintro e w4 ⟨rfl, hb⟩
  have B4 := Lib.hid (B3.out.trans (hb.mono B3.out.size))
  clear hb
  go_wp2_with fail
  go_ret
  exact ⟨rfl, B4.out⟩

theorem law_FramePuts (w : World) (x : FrameV) (g : FrameIn w x) :
    Calls Try.prog 9 #[x.val] w (LawPost w) := by
  obtain ⟨seq, A, cap, d⟩ := x
  have gi : BytesIn w A cap d := g.into
  by_cases hs : seq < 1 ∨ 4611686018427387904 < seq
  · exact puts_bad w seq A cap d.length 1 (fun W => fput_arg seq A cap d.length W hs) (fun W => rput_arg seq A cap d.length W hs)
  · by_cases hd : d.length ≤ 262144
    · obtain ⟨n, rfl⟩ : ∃ n : Nat, seq = n := ⟨seq.toNat, by omega⟩
      exact puts_ok w n A cap d (by omega) (by omega) gi hd
    · exact puts_bad w seq A cap d.length 5 (fun W => fput_many seq A cap d.length W (by omega) (by omega) (by omega)) (fun W => rput_many seq A cap d.length W (by omega) (by omega) (by omega))
end Go.Proofs.Ythmmhbeafbdglaa
