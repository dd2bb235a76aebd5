import Derived.Test.YthmmhbeafbdglaaFrRScan
namespace Go.Proofs.Ythmmhbeafbdglaa
open Go.RowKit
theorem strList_self (s : ByteArray) : (s.toList == s.toList) = true := beq_self_eq_true _
set_option maxHeartbeats 400000 in
theorem bequal_any (A A' : Option Addr) (c c' : Nat) (bs : List Nat) (w : World) (g : BytesIn w A c bs) (g' : BytesIn w A' c' bs) :
    Calls Try.prog 50 #[.slice A bs.length c, .slice A' bs.length c'] w fun e w' => e = .returned (.bool true) ∧ w = w' := by
  have kx := conv_bytes A c bs w g.at_
  have ky := conv_bytes A' c' bs w g'.at_
  have hs := strList_self (strOf bs)
  generalize strOf bs = str at kx ky hs
  clear g g'
  go_enter Try.func50, Try.ntmps50
  go_wp2
  go_ret
  exact ⟨rfl, rfl⟩
set_option maxHeartbeats 400000 in
theorem same1_any (q : Nat) (A A' : Option Addr) (c c' : Nat) (bs : List Nat) (w : World) (g : BytesIn w A c bs) (g' : BytesIn w A' c' bs) :
    Calls Try.prog 49 #[.agg #[.int .i64 (q : Nat), .slice A bs.length c], .agg #[.int .i64 (q : Nat), .slice A' bs.length c']] w fun e w' => e = .returned (.bool true) ∧ Below w.heap.size w w' := by
  have hq : ((q : Int) == (q : Int)) = true := beq_self_eq_true _
  have HB : Hid (∀ o p : Obj, Below w.heap.size w ((w.alloc o).alloc p)) := fun o p => ((Below.refl _ _).alloc (Nat.le_refl _) _).alloc (by simp) _
  have BE : Hid (∀ o p : Obj, Calls Try.prog 50 #[.slice A bs.length c, .slice A' bs.length c'] ((w.alloc o).alloc p) fun e w' => e = .returned (.bool true) ∧ (w.alloc o).alloc p = w') := fun o p => bequal_any A A' c c' bs _ (g.below (HB.out o p)) (g'.below (HB.out o p))
  clear g g'
  go_enter Try.func49, Try.ntmps49
  go_wp2_with (go_at_call 50; refine (BE.out _ _).mono ?_; rintro e w1 ⟨rfl, rfl⟩)
  go_ret
  exact ⟨rfl, HB.out _ _⟩
/-- frames, at a slice -/
theorem ScanGot.own {T : TypeId} {w : World} {base : Nat} {v : Value} {fs : List FrN} (h : w.ownsRow base T 2 v fs.length (frameCells fs)) (he : ∀ f ∈ fs, BytesIn w f.A f.cap f.bs) :
    ∃ (R : Option Addr) (cp : Nat), v = .slice R fs.length cp ∧ ScanGot w R fs := by
  have key : ∃ (R : Option Addr) (cp : Nat), v = .slice R fs.length cp ∧ ∀ i : Nat, i < fs.length → ∃ b, R = some ⟨b, 0, none⟩ ∧ b < w.heap.size ∧ w.cell? ⟨b, 2 * i, none⟩ = some (.int .i64 ((fs.getD i default).seq : Nat)) ∧ w.cell? ⟨b, 2 * i + 1, none⟩ = some (.slice (fs.getD i default).A (fs.getD i default).bs.length (fs.getD i default).cap) := by
    by_cases h0 : fs.length = 0
    · rcases h.2 with ⟨rfl, h2⟩ | ⟨b, cap, cur, rfl, _⟩
      · exact ⟨none, 0, by rw [h2], fun i hi => by omega⟩
      · exact ⟨_, cap, rfl, fun i hi => by omega⟩
    · rcases h.2 with ⟨rfl, h2⟩ | ⟨b, cap, cur, rfl, hb, hh, _⟩
      · exact absurd h2 h0
      · refine ⟨_, cap, rfl, fun i hi => ⟨b, rfl, block_lt hh, ?_⟩⟩
        obtain ⟨e1, e2⟩ := frameCells_at fs i hi
        exact ⟨(h.cellAt (2 * i) (by omega)).trans e1, (h.cellAt (2 * i + 1) (by omega)).trans e2⟩
  obtain ⟨R, cp, h1, h2⟩ := key
  exact ⟨R, cp, h1, h2, he⟩
set_option maxHeartbeats 400000 in
theorem equalfunc_any (R : Option Addr) (fs : List FrN) (c : Nat) (w : World) (g : ScanGot w R fs) (hl : fs.length ≤ 1000000000) (hc : fs.length ≤ c) :
    Calls Try.prog 48 #[.slice R fs.length c, .slice R fs.length c, .func (.func 49) #[] #[]] w fun e w' => e = .returned (.bool true) ∧ Below w.heap.size w w' := by
  have hbn : ((fs.length : Int) != (fs.length : Int)) = false := by simp
  have G := Lib.hid g
  clear g
  go_enter Try.func48, Try.ntmps48
  go_wp2_with fail
  go_loopw [17] (fun i wr => ∃ k : Nat, k ≤ fs.length ∧ i = .int .i64 k ∧ Below w.heap.size w wr) (fun i _ => fs.length - (intOf i).toNat)
  case atStart => exact ⟨0, Nat.zero_le _, rfl, Below.refl _ _⟩
  case round =>
    obtain ⟨k, hk, rfl, hb⟩ := hrel
    have HB := Lib.hid hb
    have gr := G.out.below hb
    clear hb
    by_cases hlt : k < fs.length
    · obtain ⟨b, hR, hbl, hc0, hc1⟩ := gr.cell k hlt
      subst hR
      have hmem : fs.getD k default ∈ fs := by rw [List.getD_eq_getElem?_getD, List.getElem?_eq_getElem hlt]; exact List.getElem_mem hlt
      have gb := gr.each _ hmem
      generalize fs.getD k default = f at hc0 hc1 gb
      obtain ⟨fq, fA, fc, fb⟩ := f
      replace hc0 : wr.cell? ⟨b, k * 2, none⟩ = some (.int .i64 (fq : Nat)) := by rw [Nat.mul_comm]; exact hc0
      replace hc1 : wr.cell? ⟨b, k * 2 + 1, none⟩ = some (.slice fA fb.length fc) := by rw [Nat.mul_comm]; exact hc1
      have S1 : Hid (∀ W, Below wr.heap.size wr W → Calls Try.prog 49 #[.agg #[.int .i64 (fq : Nat), .slice fA fb.length fc], .agg #[.int .i64 (fq : Nat), .slice fA fb.length fc]] W fun e w' => e = .returned (.bool true) ∧ Below W.heap.size W w') := fun W hW => same1_any fq fA fA fc fc fb W (gb.below hW) (gb.below hW)
      have HBB : Hid (∀ o p : Obj, Below wr.heap.size wr ((wr.alloc o).alloc p)) := fun o p => ((Below.refl _ _).alloc (Nat.le_refl _) _).alloc (by simp) _
      clear gr gb hmem
      go_wp2_with fail
      refine (S1.out _ (HBB.out _ _)).mono ?_
      rintro e w2 ⟨rfl, hb2⟩
      have HB2 := Lib.hid (HB.out.trans (((HBB.out _ _).trans (hb2.mono (by simp; omega))).mono HB.out.size))
      clear hb2
      go_wp2_with fail
      go_roundw
      case rel => exact ⟨k + 1, by omega, by go_num, HB2.out⟩
      case measure => simp [intOf]; omega
    · obtain rfl : k = fs.length := by omega
      clear gr
      go_wp2_with fail
      go_ret
      exact ⟨rfl, HB.out⟩
theorem fsame_any (R : Option Addr) (fs : List FrN) (c : Nat) (w : World) (g : ScanGot w R fs) (hl : fs.length ≤ 1000000000) (hc : fs.length ≤ c) :
    Calls Try.prog 33 #[.slice R fs.length c, .slice R fs.length c] w fun e w' => e = .returned (.bool true) ∧ Below w.heap.size w w' := by
  have E := Lib.hid (equalfunc_any R fs c w g hl hc)
  clear g
  go_enter Try.func33, Try.ntmps33
  go_wp2_with fail
  refine E.out.mono ?_
  rintro e w1 ⟨rfl, hb⟩
  have HB := Lib.hid hb
  clear hb
  go_wp2_with fail
  go_ret
  exact ⟨rfl, HB.out⟩
end Go.Proofs.Ythmmhbeafbdglaa
