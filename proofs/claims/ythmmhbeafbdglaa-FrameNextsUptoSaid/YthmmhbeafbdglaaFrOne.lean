import Derived.Test.YthmmhbeafbdglaaLawFrPuts
import Derived.Deep.RegionLaw
import Derived.Deep.DeepCutAuto
namespace Go.Proofs.Ythmmhbeafbdglaa
open Go.RowKit
/-- a frame that was got -/
structure FrN where
  seq : Nat
  A : Option Addr
  cap : Nat
  bs : List Nat
def FrN.cells (f : FrN) : List Value := [.int .i64 (f.seq : Nat), .slice f.A f.bs.length f.cap]
def frameCells (fs : List FrN) : List Value := fs.flatMap FrN.cells
structure OwnD (w : World) (base : Nat) (f : FrN) : Prop where
  own : w.ownsRow base 5 1 (.slice f.A f.bs.length f.cap) f.bs.length (cellsOf f.bs)
  bytes : AllBytes f.bs
theorem OwnD.below {w w' : World} {base : Nat} {f : FrN} (h : OwnD w base f) (hb : Below w.heap.size w w') : OwnD w' base f := ⟨own_below h.own hb, h.bytes⟩
theorem OwnD.into {w : World} {base : Nat} {f : FrN} (h : OwnD w base f) : BytesIn w f.A f.cap f.bs := by
  obtain ⟨A, cap, hv, g⟩ := own_in h.own h.bytes
  injection hv with h1 _ h2
  subst h1; subst h2
  exact g
/-- the scanner -/
structure Scn (w0 w : World) (g : Nat) (A : Option Addr) (cap : Nat) (bs : List Nat) (at_ seq : Nat) (vo : Value) (fs : List FrN) : Prop where
  blk : w.heap[g]? = some (.cells #[.slice A bs.length cap, .int .i64 (at_ : Nat), .int .i64 (seq : Nat), vo] 80 (0, 0))
  base : w0.heap.size ≤ g
  old : Below w0.heap.size w0 w
  row : w.ownsRow (g + 1) 41 2 vo fs.length (frameCells fs)
  each : ∀ f ∈ fs, OwnD w (g + 1) f
theorem Scn.below {w0 w w' : World} {g : Nat} {A : Option Addr} {cap : Nat} {bs : List Nat} {at_ seq : Nat} {vo : Value} {fs : List FrN} (h : Scn w0 w g A cap bs at_ seq vo fs) (hb : Below w.heap.size w w') : Scn w0 w' g A cap bs at_ seq vo fs :=
  ⟨(hb.block g (block_lt h.blk)).trans h.blk, h.base, h.old.trans (hb.mono h.old.size), own_below h.row hb, fun f hf => (h.each f hf).below hb⟩
/-- 'Next', its result in one form -/
theorem next_uni (A : Option Addr) (cap : Nat) (bs : List Nat) (w : World) (g : BytesIn w A cap bs) (hlm : bs.length ≤ 140737488355328) :
    Calls Try.prog 26 #[.slice A bs.length cap] w fun e w' => ∃ (sq : Nat) (A' : Option Addr) (L k n : Nat), e = .returned (.tuple #[.agg #[.int .i64 (sq : Nat), .slice A' L k], .int .i64 (n : Nat), .int .i64 (nextE bs : Nat)]) ∧ Below w.heap.size w w' ∧
      (nextE bs = 0 → sq = seqOf bs ∧ n = 20 + lenOf bs ∧ L = (dataOf bs).length ∧ w'.ownsRow w.heap.size 5 1 (.slice A' L k) (dataOf bs).length (cellsOf (dataOf bs))) := by
  refine (next_any A cap bs w g hlm).mono ?_
  rintro e w' ⟨hb, h⟩
  rcases h with ⟨h0, rfl⟩ | ⟨h0, v, rfl, ho⟩
  · exact ⟨0, none, 0, 0, 0, rfl, hb, fun h => absurd h h0⟩
  · have hd : AllBytes (dataOf bs) := (g.bytes.drop 20).take _
    obtain ⟨A', k, rfl, _⟩ := own_in ho hd
    exact ⟨seqOf bs, A', (dataOf bs).length, k, 20 + lenOf bs, by rw [h0]; rfl, hb, fun _ => ⟨rfl, rfl, rfl, ho⟩⟩
theorem own_keep {w w' : World} {base : Nat} {e : TypeId} {size n : Nat} {v : Value} {xs : List Value} (h : w.ownsRow base e size v n xs) (hb : ∀ j, base ≤ j → w'.heap[j]? = w.heap[j]?) : w'.ownsRow base e size v n xs := by
  refine ⟨h.1, ?_⟩
  rcases h.2 with h2 | ⟨b, cap, cur, hv, hg, hh, r⟩
  · exact Or.inl h2
  · exact Or.inr ⟨b, cap, cur, hv, hg, (hb b hg).trans hh, r⟩
/-- what the first statement of 'one' leaves -/
def Got (w : World) (r : List Nat) (s3 s4 s5 : Value) (wx : World) : Prop :=
  ∃ (F sq L k n : Nat) (A' : Option Addr), s3 = .pointer (some ⟨F, 0, none⟩) ∧ s4 = .int .i64 (n : Nat) ∧ s5 = .int .i64 (nextE r : Nat) ∧ w.heap.size ≤ F ∧ wx.heap[F]? = some (.cells #[.int .i64 (sq : Nat), .slice A' L k] 41 (0, 0)) ∧ Below w.heap.size w wx ∧
    (nextE r = 0 → sq = seqOf r ∧ n = 20 + lenOf r ∧ L = (dataOf r).length ∧ wx.ownsRow w.heap.size 5 1 (.slice A' L k) (dataOf r).length (cellsOf (dataOf r)))
theorem and12 {p q r : Prop} (h : p ∧ q ∧ r) : p ∧ q := ⟨h.1, h.2.1⟩
theorem infoFr : (Try.prog.info? 41).map (fun i => (i.zero, i.size, i.bytes)) = some (some (.agg #[.int .i64 0, .slice none 0 0]), 2, 32) := by kernel_rfl

set_option maxHeartbeats 1000000 in
theorem one_no (w0 w : World) (g : Nat) (A : Option Addr) (cap : Nat) (bs : List Nat) (at_ seq : Nat) (vo : Value) (fs : List FrN) (h : Scn w0 w g A cap bs at_ seq vo fs) (AR : Option Addr) (cr : Nat) (r : List Nat)
    (hsl : ∀ W, (Instr.sliceAt 28 (.slice A bs.length cap) (some (.int .i64 (at_ : Nat))) none none).run Try.prog W = .ok (.slice AR r.length cr) W) (gr : BytesIn w0 AR cr r) (hrl : r.length ≤ 140737488355328)
    (hno : nextE r ≠ 0 ∨ seqOf r ≠ seq) :
    Calls Try.prog 45 #[.pointer (some ⟨g, 0, none⟩)] w fun e w' => e = .returned (.bool false) ∧ Below w.heap.size w w' := by
  have hg := block_lt h.blk
  have hc0 : w.cell? ⟨g, 0, none⟩ = some (.slice A bs.length cap) := block_cell h.blk 0
  have hc1 : w.cell? ⟨g, 1, none⟩ = some (.int .i64 (at_ : Nat)) := block_cell h.blk 1
  have CC : Hid (∀ W, Below w.heap.size w W → W.cell? ⟨g, 0, none⟩ = some (.slice A bs.length cap) ∧ W.cell? ⟨g, 1, none⟩ = some (.int .i64 (at_ : Nat)) ∧ W.cell? ⟨g, 2, none⟩ = some (.int .i64 (seq : Nat)) ∧ W.cell? ⟨g, 3, none⟩ = some vo) := fun W hW =>
    ⟨(hW.cell (p := ⟨g, 0, none⟩) hg).trans hc0, (hW.cell (p := ⟨g, 1, none⟩) hg).trans hc1, (hW.cell (p := ⟨g, 2, none⟩) hg).trans (block_cell h.blk 2), (hW.cell (p := ⟨g, 3, none⟩) hg).trans (block_cell h.blk 3)⟩
  have NN : Hid (∀ W, Below w.heap.size w W → Calls Try.prog 26 #[.slice AR r.length cr] W fun e w' => ∃ (sq : Nat) (A' : Option Addr) (L k n : Nat), e = .returned (.tuple #[.agg #[.int .i64 (sq : Nat), .slice A' L k], .int .i64 (n : Nat), .int .i64 (nextE r : Nat)]) ∧ Below W.heap.size W w' ∧
      (nextE r = 0 → sq = seqOf r ∧ n = 20 + lenOf r ∧ L = (dataOf r).length ∧ w'.ownsRow W.heap.size 5 1 (.slice A' L k) (dataOf r).length (cellsOf (dataOf r)))) := fun W hW => next_uni AR cr r W (gr.below (h.old.trans (hW.mono h.old.size))) hrl
  have HNO := Lib.hid hno
  clear hno
  go_enter Try.func45, Try.ntmps45
  go_upto_region 1 with fail
  go_cut [3, 4, 5] (fun s3 s4 s5 wx => Got w r s3 s4 s5 wx)
  case first =>
    go_region_held3 (fun w' => w'.cell? ⟨g, 0, none⟩ = some (.slice A bs.length cap) ∧ w'.cell? ⟨g, 1, none⟩ = some (.int .i64 (at_ : Nat)))
      (first
        | go_keep
        | exact and12 (CC.out _ hb1)
        | exact and12 (CC.out _ (hb1.alloc hb1.size _))
        | exact and12 (CC.out _ (hb1.setCell (Nat.le_refl _) _))
        | exact and12 (CC.out _ ((hb1.setCell (Nat.le_refl _) _).setCell (Nat.le_refl _) _))
        | exact and12 (CC.out _ ((Below.refl _ _).alloc (Nat.le_refl _) _)))
      (first
        | (go_at_call 26; (with_reducible refine (NN.out _ ((Below.refl _ _).drew)).mono ?_); rintro e w1 ⟨sq, A', L, k, n, rfl, hb, hz⟩; have HZ := Lib.hid hz; have hb1 : Below w.heap.size w w1 := ⟨hb.os, hb.tape, hb.output, hb.size, hb.block⟩; clear hb hz)
        | (go_at_call 26; (with_reducible refine (NN.out _ (((Below.refl _ _).alloc (Nat.le_refl _) _).drew)).mono ?_); rintro e w1 ⟨sq, A', L, k, n, rfl, hb, hz⟩; have HZ := Lib.hid hz; have hb1 : Below w.heap.size w w1 := (((Below.refl _ _).alloc (Nat.le_refl _) (Obj.cells #[Value.int .i64 0, Value.slice none 0 0] 41)).drew).trans (hb.mono (by simp)); have HBK : Hid (w1.heap[w.heap.size]? = some (.cells #[Value.int .i64 0, Value.slice none 0 0] 41 (0, 0))) := (hb.block _ (by simp)).trans (heap_alloc_new _ _); have f0 := block_cell HBK.out 0; have f1 := block_cell HBK.out 1; have r0 := block_free HBK.out 0; have r1 := block_free HBK.out 1; clear hb hz)
        | fail)
    · go_wp2_with fail
      go_meet
      exact ⟨w1.heap.size, sq, L, k, n, A', rfl, rfl, rfl, hb1.size, heap_alloc_new _ _, hb1.alloc hb1.size _, fun h0 => by
        obtain ⟨a1, a2, a3, a4⟩ := HZ.out h0
        exact ⟨a1, a2, a3, own_below a4 ((Below.refl _ _).alloc (Nat.le_refl _) _)⟩⟩
    · go_wp2_with fail
      go_meet
      exact ⟨w.heap.size, sq, L, k, n, A', rfl, rfl, rfl, Nat.le_refl _, block_set (block_set HBK.out 0 _) 1 _, (hb1.setCell (Nat.le_refl _) _).setCell (Nat.le_refl _) _, fun h0 => by
        obtain ⟨a1, a2, a3, a4⟩ := HZ.out h0
        refine ⟨a1, a2, a3, own_lower (own_keep a4 (fun j hj => ?_)) (by simp)⟩
        have hj' : w.heap.size < j := by simp at hj; omega
        rw [Below.heap_setCell _ _ _ _ (by simp; omega), Below.heap_setCell _ _ _ _ (by simp; omega)]⟩
  case rest =>
    obtain ⟨F, sq, L, k, n, A', rfl, rfl, rfl, hF, hk, hB, hz⟩ := hcut
    have HB := Lib.hid hB
    have q0 := block_cell hk 0
    have q2 := (CC.out _ hB).2.2.1
    by_cases h0 : nextE r = 0
    · have hs : ((sq : Int) != (seq : Int)) = true := by
        rcases HNO.out with h1 | h1
        · exact absurd h0 h1
        · have := (hz h0).1; simp; omega
      have he : ((nextE r : Int) != 0) = false := by rw [h0]; rfl
      generalize nextE r = er at he ⊢
      clear hz hk hB h0 hc0 hc1 NN
      go_wp2_with fail
      go_quiet (fail)
      go_wp2
      go_ret
      exact ⟨rfl, below_drewN HB.out _⟩
    · have he : ((nextE r : Int) != 0) = true := by simp; omega
      generalize nextE r = er at he ⊢
      clear hz hk hB h0 hc0 hc1 NN
      go_wp2_with fail
      go_quiet (fail)
      go_wp2
      go_ret
      exact ⟨rfl, below_drewN HB.out _⟩
end Go.Proofs.Ythmmhbeafbdglaa
