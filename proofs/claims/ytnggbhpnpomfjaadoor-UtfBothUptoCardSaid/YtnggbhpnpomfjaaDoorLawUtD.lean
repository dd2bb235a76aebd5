/- The law 'UtfDecodes': any text's signs, or its fault, and its first one, are the document's. Conditions: the text is no longer than 2^40; the decoder's two tables are as they are laid. -/
import Derived.Test.YtnggbhpnpomfjaaDoorLawUtC
import Derived.Test.YtnggbhpnpomfjaaDoorUtRDec
set_option linter.unusedVariables false
namespace Go.Proofs.YtnggbhpnpomfjaaDoor
open Go.RowKit
theorem dec_range (l : List UInt8) : ∀ n ∈ decL l, signB n = true := by
  intro n hn
  unfold decL at hn
  split at hn
  · exact ((walk_whole (p := okB) (fun n h => by simpa [okB] using h) l.length l (Nat.le_refl _)).2 n hn).1
  · cases hn
theorem dec_count (l : List UInt8) : (decL l).length ≤ l.length := by
  have := walkL_le okB l.length l (Nat.le_refl _)
  unfold decL; split
  · omega
  · simp
theorem dec_ints {w : World} {base : Nat} {v : Value} {l : List UInt8} (hm : l.length ≤ 1099511627776) (h : w.ownsRow base 3 1 v (decL l).length (intCells (decL l))) : ∃ A c, v = .slice A (decL l).length c ∧ IntsIn w A c (decL l) :=
  ints_own h (fun n hn => by have := signB_iff.1 (dec_range l n hn); omega) (by have := dec_count l; omega)
/-- what 'Decode' gives: a row of its own, and a fault or none -/
def GotPost (l : List UInt8) (w : World) (e : Ending) (w' : World) : Prop :=
  ∃ (A : Option Addr) (c : Nat), e = .returned (.tuple #[.slice A (decL l).length c, faultV l (walkL okB l).2]) ∧ IntsIn w' A c (decL l) ∧ w'.ownsRow w.heap.size 3 1 (.slice A (decL l).length c) (decL l).length (intCells (decL l)) ∧ Below w.heap.size w w'
theorem got_of {l : List UInt8} (hm : l.length ≤ 1099511627776) {w : World} {e : Ending} {w' : World} (h : DecPost l w e w') : GotPost l w e w' := by
  obtain ⟨A, c, rfl, ho, hb⟩ := h
  obtain ⟨A', c', he, hi⟩ := dec_ints hm ho
  cases he
  exact ⟨A, c, rfl, hi, ho, hb⟩
theorem got_text (s : ByteArray) (hm : s.size ≤ 1099511627776) (w : World) (hT : Tabs w) : Calls Tryd.prog 28 #[.string s] w (GotPost s.data.toList w) := by
  have h := walkL_le okB s.data.toList.length s.data.toList (Nat.le_refl _)
  have e : s.data.toList.length = s.size := rfl
  exact (decode_text s w hT (by omega) (by omega)).mono fun _ _ h => got_of (by omega) h
theorem rgot_text (s : ByteArray) (hm : s.size ≤ 1099511627776) (w : World) : Calls Tryd.prog 29 #[.string s] w (GotPost s.data.toList w) := by
  have h := walkL_le okB s.data.toList.length s.data.toList (Nat.le_refl _)
  have e : s.data.toList.length = s.size := rfl
  exact (rdecode_text s w (by omega) (by omega)).mono fun _ _ h => got_of (by omega) h
set_option maxHeartbeats 1600000 in
theorem law_UtfDecodes (w : World) (s : ByteArray) (z : s.size ≤ 1048576) (hT : Tabs w) :
    Calls Tryd.prog 6 #[.string s] w (LawPost w) := by
  have hm : s.size ≤ 9223372036854775807 := by omega
  have D1 := Lib.hid (fun W (hW : Below w.heap.size w W) => got_text s (by omega) W (hT.below hW))
  have D2 := Lib.hid (fun W (hW : Below w.heap.size w W) => rgot_text s (by omega) W)
  have F1 := Lib.hid (fun W (hW : Below w.heap.size w W) => first_any s W (hT.below hW))
  have F2 := Lib.hid (fun W (hW : Below w.heap.size w W) => rfirst_any s W hm)
  have AL := Lib.hid (fun W (hW : Below w.heap.size w W) => alive_any W (hT.below hW))
  obtain ⟨x, y, hv⟩ := faultV_form s.data.toList (walkL okB s.data.toList).2
  unfold GotPost at D1 D2
  unfold FirstPost at F1 F2
  rw [hv] at D1 D2
  generalize decL s.data.toList = zs at D1 D2
  generalize (firstL s.data.toList).1 = fa at F1 F2
  generalize (firstL s.data.toList).2 = fb at F1 F2
  have e2 : (x == x) = true := beq_self_eq_true _
  have e3 : (y == y) = true := beq_self_eq_true _
  have e4 : (fa == fa) = true := beq_self_eq_true _
  have e5 : ((fb : Int) == (fb : Int)) = true := beq_self_eq_true _
  clear hT hv
  go_enter Tryd.func6, Tryd.ntmps6
  go_wp2_with fail
  refine (D1.out _ (Below.refl _ _)).mono ?_
  rintro e w1 ⟨A, c, rfl, hi1, -, hb1⟩
  have HB1 := Lib.hid hb1
  have HI1 := Lib.hid hi1
  have HK1 := Lib.hid (Kept.first w1 33 #[.int .i64 0, .int .i64 0])
  have HS1 := hb1.size
  clear hb1 hi1
  go_wp2_with (refine wpList_store_row rfl 33 _ _ rfl w1.heap.size #[.int .i64 x, .int .i64 y] rfl rfl 33 _ HK1.out.1 (by kernel_rfl) rfl (two_one _ _) ?_)
  have HK2 := Lib.hid (HK1.out.set #[.int .i64 x, .int .i64 y])
  generalize ((w1.alloc _).setRow _ _) = w2 at HK2 ⊢
  have HB2 : Hid (Below w.heap.size w w2) := HB1.out.trans (HK2.out.2.mono HS1)
  refine (D2.out _ HB2.out).mono ?_
  rintro e w3 ⟨A', c', rfl, hi3, -, hb3⟩
  have HB3 := Lib.hid (HB2.out.trans (hb3.mono HB2.out.size))
  have HI2 := Lib.hid (HI1.out.below (HK2.out.2.trans (hb3.mono HK2.out.2.size)))
  have HI3 := Lib.hid hi3
  have HK3 := Lib.hid (HK2.out.below hb3)
  have HL1 := Lib.hid (Kept.first w3 33 #[.int .i64 0, .int .i64 0])
  have HS3 := HB3.out.size
  clear hb3 hi3 HI1
  go_wp2_with (refine wpList_store_row rfl 33 _ _ rfl w3.heap.size #[.int .i64 x, .int .i64 y] rfl rfl 33 _ HL1.out.1 (by kernel_rfl) rfl (two_one _ _) ?_)
  have HL2 := Lib.hid (HL1.out.set #[.int .i64 x, .int .i64 y])
  generalize ((w3.alloc _).setRow _ _) = w4 at HL2 ⊢
  have HB4 : Hid (Below w.heap.size w w4) := HB3.out.trans (HL2.out.2.mono HS3)
  have HK4 := Lib.hid (HK3.out.below HL2.out.2)
  have HI2 := Lib.hid (HI2.out.below HL2.out.2)
  have HI3 := Lib.hid (HI3.out.below HL2.out.2)
  refine (F1.out _ HB4.out).mono ?_
  rintro e w5 ⟨rfl, hb5⟩
  have HB5 := Lib.hid (HB4.out.trans (hb5.mono HB4.out.size))
  have HK5 := Lib.hid (HK4.out.below hb5)
  have HL5 := Lib.hid (HL2.out.below hb5)
  have HI2 := Lib.hid (HI2.out.below hb5)
  have HI3 := Lib.hid (HI3.out.below hb5)
  clear hb5
  go_wp2_with fail
  refine (F2.out _ HB5.out).mono ?_
  rintro e w6 ⟨rfl, hb6⟩
  have HB6 := Lib.hid (HB5.out.trans (hb6.mono HB5.out.size))
  have HK6 := Lib.hid (HK5.out.below hb6)
  have HL6 := Lib.hid (HL5.out.below hb6)
  have HI2 := Lib.hid (HI2.out.below hb6)
  have HI3 := Lib.hid (HI3.out.below hb6)
  clear hb6
  go_wp2_with fail
  refine (ints_same _ _ _ _ _ _ HI2.out HI3.out).mono ?_
  rintro e w7 ⟨rfl, hb7⟩
  have HB7 := Lib.hid (HB6.out.trans (hb7.mono HB6.out.size))
  have HK7 := Lib.hid (HK6.out.below hb7)
  have HL7 := Lib.hid (HL6.out.below hb7)
  clear hb7
  have q0 := HK7.out.cell 0
  have q1 := HK7.out.cell 1
  have r0 := HL7.out.cell 0
  have r1 := HL7.out.cell 1
  go_wp2_with fail
  refine (AL.out _ HB7.out).mono ?_
  rintro e w8 ⟨rfl, hb8⟩
  have HB8 := Lib.hid (HB7.out.trans (hb8.mono HB7.out.size))
  clear hb8
  go_wp2_with fail
  go_ret
  exact ⟨rfl, HB8.out⟩
end Go.Proofs.YtnggbhpnpomfjaaDoor
