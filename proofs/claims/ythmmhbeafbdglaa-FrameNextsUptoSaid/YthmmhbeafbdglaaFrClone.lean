import Derived.Test.YthmmhbeafbdglaaFrNext
import Derived.Lib.SliceRun
namespace Go.Proofs.Ythmmhbeafbdglaa
open Go.RowKit
set_option maxHeartbeats 400000 in
theorem clone_any (ad : Addr) (cap : Nat) (d : List Nat) (w : World) (g : BytesIn w (some ad) cap d) (hl : d.length ≤ 140737488355328) :
    Calls Try.prog 44 #[.slice (some ad) d.length cap] w fun e w' => ∃ v, e = .returned v ∧ w'.ownsRow w.heap.size 5 1 v d.length (cellsOf d) ∧ Below w.heap.size w w' := by
  obtain ⟨i0, hi, hz0, hz1, hz2⟩ := info_parts infoU8
  have qT : ∀ (w : World) (a : Option Addr) (n c n' c' : Nat), (binOp .eql 28 (.slice a n c) (.slice none n' c')).run Try.prog w = .ok (.bool a.isNone) w := fun w a n c n' c' => Lib.run_eql_slice_nil w _ _ a n c n' c' Try.underlying28
  have HB : Hid (∀ o : Obj, Below w.heap.size w (w.alloc o)) := fun o => (Below.refl _ _).alloc (Nat.le_refl _) _
  have hown0 : (w.alloc (.cells #[] 5)).ownsRow w.heap.size 5 1 (.slice (some ⟨w.heap.size, 0, none⟩) 0 0) 0 [] :=
    ⟨rfl, Or.inr ⟨w.heap.size, 0, #[], rfl, Nat.le_refl _, heap_alloc_new _ _, Nat.le_refl _, Nat.zero_le _, rfl, rfl⟩⟩
  have HO := Lib.hid hown0
  clear hown0
  go_enter Try.func44, Try.ntmps44
  go_wp2_with (at_builtin; refine wpList_append_own _ rfl _ _ 28 rfl w.heap.size 5 i0 (.int .u8 0) 1 1 Try.underlying28 hi hz0 hz1 hz2 rfl (by decide) _ 0 [] rfl HO.out ad d.length cap (cellsOf d) rfl ?c1 ?c2 ?c3 ?c4 ?c5 ?c6 ?_)
  case c1 => rw [cellsOf_length]; omega
  case c2 => exact news_any (g.below (HB.out _)).at_ ad rfl
  case c3 => exact cellsOf_one d
  case c4 => unfold maxLen; omega
  case c5 => omega
  case c6 => simp
  intro v' w1 hown hgrow _
  have HB1 : Hid (Below w.heap.size w w1) := (HB.out _).grown hgrow (by simp) (fun k hk => by cases hk; exact Nat.le_refl _)
  have HO1 := Lib.hid hown
  clear hown hgrow HO
  go_wp2_with fail
  go_ret
  exact ⟨_, rfl, by simpa using HO1.out, HB1.out⟩
end Go.Proofs.Ythmmhbeafbdglaa
