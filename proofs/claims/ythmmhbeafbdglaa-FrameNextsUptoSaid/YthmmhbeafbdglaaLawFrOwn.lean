import Derived.Test.YthmmhbeafbdglaaFrAlive
namespace Go.Proofs.Ythmmhbeafbdglaa
open Go.RowKit
/-- one row was written over, by bytes -/
structure Dirty (W wr : World) (g n : Nat) : Prop where
  block : ∃ cur : Array Value, wr.heap[g]? = some (.cells cur 5 (0, 0)) ∧ ∀ i, i < n → ∃ c : Nat, c < 256 ∧ cur[i]? = some (.int .u8 (c : Int))
  size : wr.heap.size = W.heap.size
  rest : W.grownBy wr (some g)
theorem Dirty.set {W wr : World} {g n : Nat} (h : Dirty W wr g n) (i d : Nat) (hd : d < 256) : Dirty W (wr.setCell ⟨g, i, none⟩ (.int .u8 (d : Int))) g n := by
  obtain ⟨cur, h1, h2⟩ := h.block
  refine ⟨⟨_, block_set h1 i _, fun j hj => ?_⟩, by simp [World.setCell]; exact h.size, ⟨h.rest.os, h.rest.tape, h.rest.output, by simp [World.setCell]; exact h.rest.size, fun k hk hne => ?_⟩⟩
  · obtain ⟨c, hc, hcj⟩ := h2 j hj
    rw [Array.getElem?_setIfInBounds]
    by_cases hij : i = j
    · subst hij
      rw [if_pos rfl, if_pos (Array.getElem?_eq_some_iff.1 hcj).1]
      exact ⟨d, hd, rfl⟩
    · rw [if_neg hij]; exact ⟨c, hc, hcj⟩
  · rw [Below.heap_setCell _ _ _ _ (by intro e; exact hne (by rw [e]))]; exact h.rest.block k hk hne
theorem Dirty.below {W wr : World} {g n : Nat} (h : Dirty W wr g n) {B : Nat} (hB : B ≤ g) : Below B W wr :=
  ⟨h.rest.os, h.rest.tape, h.rest.output, h.rest.size, fun k hk => by
    by_cases hl : k < W.heap.size
    · exact h.rest.block k hl (by intro e; cases e; omega)
    · rw [Array.getElem?_eq_none (by rw [h.size]; omega), Array.getElem?_eq_none (by omega)]⟩
theorem Dirty.cell {W wr : World} {g n : Nat} (h : Dirty W wr g n) {p : Addr} (hp : p.block ≠ g) (hl : p.block < W.heap.size) : wr.cell? p = W.cell? p :=
  World.cell?_of_block (w := W) (h.rest.block p.block hl (by intro e; exact hp (Option.some.inj e)))
theorem xor255 (c : Nat) (hc : c < 256) : ∃ d : Nat, d < 256 ∧ bits .xor .u8 (c : Int) 255 = (d : Int) := by
  refine ⟨c ^^^ 255, Nat.xor_lt_two_pow (n := 8) hc (by omega), ?_⟩
  have := u8_xor_nat c 255 hc (by omega)
  exact this

set_option maxHeartbeats 400000 in
theorem own_many (w : World) (A : Option Addr) (cap : Nat) (bs : List Nat) (g : BytesIn w A cap bs) (hl : (262144 : Int) < (bs.length : Int)) :
    Calls Try.prog 10 #[.slice A bs.length cap] w (LawPost w) := by
  have hx := conv_bytes A cap bs w g.at_
  go_enter Try.func10, Try.ntmps10
  go_wp2_with fail
  refine (fput_many 1 A cap bs.length w (by omega) (by omega) hl).mono ?_
  rintro e w1 ⟨rfl, hb⟩
  have B1 := Lib.hid hb
  clear hb
  go_wp2_with fail
  refine (falive_any _).mono ?_
  rintro e w8 ⟨rfl, hb⟩
  have B8 := Lib.hid (B1.out.trans (hb.mono B1.out.size))
  clear hb
  go_wp2_with fail
  go_ret
  exact ⟨rfl, B8.out⟩

set_option maxHeartbeats 1000000 in
theorem own_ok (w : World) (A : Option Addr) (cap : Nat) (bs : List Nat) (g : BytesIn w A cap bs) (hl : bs.length ≤ 262144) :
    Calls Try.prog 10 #[.slice A bs.length cap] w (LawPost w) := by
  have hx := conv_bytes A cap bs w g.at_
  have GX : Hid (∀ W, Below w.heap.size w W → (convert 28 9 (.slice A bs.length cap)).run Try.prog W = .ok (.string (strOf bs)) W) := fun W hW => conv_bytes A cap bs W (g.below hW).at_
  have GY : Hid (∀ (A2 : Option Addr) (k2 : Nat) (W : World), BytesIn W A2 k2 bs → (convert 28 9 (.slice A2 bs.length k2)).run Try.prog W = .ok (.string (strOf bs)) W) := fun A2 k2 W hW => conv_bytes A2 k2 bs W hW.at_
  generalize strOf bs = s at hx GX GY
  have hne : nextE (frameB 1 bs) = 0 := by have := frame_next 1 bs [] (by omega) (by omega) hl; rwa [List.append_nil] at this
  obtain ⟨p1, p2, p3, _, _⟩ := frame_parts 1 bs [] (by omega) hl
  rw [List.append_nil] at p1 p2 p3
  have HP : Hid (∀ w1 e w2, NextPost (frameB 1 bs) w1 e w2 → Below w1.heap.size w1 w2 ∧ ∃ v, e = .returned (.tuple #[.agg #[.int .i64 1, v], .int .i64 (20 + bs.length : Nat), .int .i64 0]) ∧ w2.ownsRow w1.heap.size 5 1 v bs.length (cellsOf bs)) := by
    intro w1 e w2 ⟨hb, h⟩
    rcases h with ⟨h, _⟩ | ⟨_, v, he, ho⟩
    · exact absurd hne h
    · rw [p1, p2] at he; rw [p3] at ho
      exact ⟨hb, v, he, ho⟩
  clear hne p1 p2 p3
  go_enter Try.func10, Try.ntmps10
  go_wp2_with fail
  refine (fput_ok 1 A cap bs w (by omega) (by omega) g hl).mono ?_
  rintro e w1 ⟨v, rfl, hown, hb⟩
  have B1 := Lib.hid hb
  obtain ⟨A1, cap1, rfl, g1⟩ := own_in hown (frameB_bytes 1 _ g.bytes)
  have G1 := Lib.hid g1
  have hfl : (frameB 1 bs).length ≤ 140737488355328 := by rw [frameB_length]; omega
  have GN := Lib.hid (fun W (hW : Below w1.heap.size w1 W) => next_any A1 cap1 (frameB 1 bs) W (G1.out.below hW) hfl)
  rw [frameB_length] at GN ⊢
  clear hb hown g1 hfl
  go_wp2_with fail
  refine (GN.out w1 (Below.refl _ _)).mono ?_
  intro e w2 hp
  obtain ⟨hb2, v2, rfl, hown2⟩ := HP.out _ _ _ hp
  clear hp
  have B2 := Lib.hid hb2
  have HO2 := Lib.hid hown2
  obtain ⟨A2, k2, rfl, g2⟩ := own_in hown2 g.bytes
  have G2 := Lib.hid g2
  clear hb2 hown2 g2
  go_wp2_with fail
  obtain ⟨W, hW⟩ : ∃ W, W = w2.alloc (Obj.cells #[.int .i64 1, .slice A2 bs.length k2] 41) := ⟨_, rfl⟩
  have hD0 : bs = [] ∨ ∃ gg, A2 = some ⟨gg, 0, none⟩ ∧ w1.heap.size ≤ gg ∧ gg < w2.heap.size ∧ Dirty W W gg bs.length := by
    by_cases h0 : bs = []
    · exact Or.inl h0
    · right
      obtain ⟨gg, cap', cur, hv, hgg, hblk, _, _, hcur⟩ := own_bytes HO2.out h0
      have hA2 : A2 = some ⟨gg, 0, none⟩ := by injection hv
      refine ⟨gg, hA2, hgg, block_lt hblk, ⟨cur, ?_, fun i hi => ⟨bs.getD i 0, g.bytes.getD i, hcur i hi⟩⟩, rfl, ⟨rfl, rfl, rfl, Nat.le_refl _, fun _ _ _ => rfl⟩⟩
      rw [hW]; exact heap_old hblk _
  have hBW : Below w1.heap.size w1 W := by rw [hW]; exact B2.out.alloc B2.out.size _
  have hcW : W.cell? ⟨w2.heap.size, 1, none⟩ = some (.slice A2 bs.length k2) := by rw [hW]; exact block_cell (heap_alloc_new _ _) 1
  have hsW : W.heap.size = w2.heap.size + 1 := by rw [hW]; simp
  rw [← hW]
  have D0 := Lib.hid hD0
  have BW := Lib.hid hBW
  have CW := Lib.hid hcW
  have SW := Lib.hid hsW
  clear hW hD0 hBW hcW hsW HO2 hx
  go_loopw [33] (fun i wr => ∃ k : Nat, k ≤ bs.length ∧ i = .int .i64 k ∧ Hid (wr = W ∨ ∃ gg, A2 = some ⟨gg, 0, none⟩ ∧ w1.heap.size ≤ gg ∧ gg < w2.heap.size ∧ Dirty W wr gg bs.length)) (fun i _ => bs.length - (intOf i).toNat)
  case atStart => exact ⟨0, Nat.zero_le _, rfl, Or.inl rfl⟩
  case round =>
    obtain ⟨k, hk, rfl, hr⟩ := hrel
    have BR : Hid (Below w1.heap.size w1 wr) := by
      rcases hr.out with h | ⟨gg, _, h1, _, h2⟩
      · rw [h]; exact BW.out
      · exact BW.out.trans (h2.below h1)
    have hcr : wr.cell? ⟨w2.heap.size, 1, none⟩ = some (.slice A2 bs.length k2) := by
      rcases hr.out with h | ⟨gg, _, h1, h3, h2⟩
      · rw [h]; exact CW.out
      · exact (h2.cell (p := ⟨w2.heap.size, 1, none⟩) (by simp; omega) (by rw [SW.out]; simp)).trans CW.out
    by_cases hlt : k < bs.length
    · have hd : ∃ gg, A2 = some ⟨gg, 0, none⟩ ∧ w1.heap.size ≤ gg ∧ gg < w2.heap.size ∧ Dirty W wr gg bs.length := by
        rcases hr.out with h | h
        · rcases D0.out with h0 | h0
          · rw [h0] at hlt; simp at hlt
          · rw [h]; exact h0
        · exact h
      obtain ⟨gg, hA, h1, h2, hdd⟩ := hd
      obtain ⟨cur, hblk, hcur⟩ := hdd.block
      obtain ⟨c, hc, hck⟩ := hcur k hlt
      have hcell : wr.cell? ⟨gg, k, none⟩ = some (.int .u8 (c : Int)) := (block_cell hblk k).trans hck
      have hfr := block_free hblk k
      obtain ⟨d, hd, hxor⟩ := xor255 c hc
      have DD := Lib.hid hdd
      have HA := Lib.hid hA
      rw [hA] at hcr
      clear hA hdd hblk hcur hck hr
      go_wp2
      go_roundw
      case rel => exact ⟨k + 1, by omega, by go_num, Or.inr ⟨gg, HA.out, h1, h2, DD.out.set k d hd⟩⟩
      case measure => simp [intOf]; omega
    · obtain rfl : k = bs.length := by omega
      clear hr hcr
      go_wp2_with fail
      refine (GN.out wr BR.out).mono ?_
      intro e w3 hp
      obtain ⟨hb3, v3, rfl, hown3⟩ := HP.out _ _ _ hp
      clear hp
      have B3 := Lib.hid (B1.out.trans ((BR.out.mono B1.out.size).trans (hb3.mono (by have := B1.out.size; have := BR.out.size; omega))))
      obtain ⟨A3, k3, rfl, g3⟩ := own_in hown3 g.bytes
      have GX3 : ∀ o : Obj, (convert 28 9 (.slice A bs.length cap)).run Try.prog (w3.alloc o) = .ok (.string s) (w3.alloc o) := fun o => GX.out _ (B3.out.alloc B3.out.size o)
      have GY3 : ∀ o : Obj, (convert 28 9 (.slice A3 bs.length k3)).run Try.prog (w3.alloc o) = .ok (.string s) (w3.alloc o) := fun o => GY.out _ _ _ (g3.below ((Below.refl _ _).alloc (Nat.le_refl _) o))
      clear hb3 hown3 g3
      go_wp2_with fail
      refine (falive_any _).mono ?_
      rintro e w8 ⟨rfl, hb⟩
      have B8 := Lib.hid ((B3.out.alloc B3.out.size (Obj.cells #[.int .i64 1, .slice A3 bs.length k3] 41)).trans (hb.mono (by simp; have := B3.out.size; omega)))
      clear hb
      go_wp2_with fail
      go_ret
      exact ⟨rfl, B8.out⟩

theorem law_FrameOwn (w : World) (A : Option Addr) (cap : Nat) (bs : List Nat) (g : BytesIn w A cap bs) :
    Calls Try.prog 10 #[.slice A bs.length cap] w (LawPost w) := by
  by_cases h : bs.length ≤ 262144
  · exact own_ok w A cap bs g h
  · exact own_many w A cap bs g (by omega)
end Go.Proofs.Ythmmhbeafbdglaa
