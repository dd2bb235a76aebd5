/- The law 'FrameNexts': the frame that begins any bytes, and those in a row, are the document's. Conditions: the bytes are no more than the row's bound. -/
import Derived.Test.YthmmhbeafbdglaaFrOurs
import Derived.Test.YthmmhbeafbdglaaOpenUp
namespace Go.Proofs.Ythmmhbeafbdglaa
open Go.RowKit
/-- both ways to scan, in one form -/
theorem scan_uni (A : Option Addr) (cap : Nat) (bs : List Nat) (seq : Int) (hs : -9223372036854775808 ≤ seq ∧ seq ≤ 9223372036854775807) (hlm : bs.length ≤ 1000000000) :
    ∃ (P : List (Nat × List Nat)) (T : Nat), ∀ w, BytesIn w A cap bs →
      (Calls Try.prog 28 #[.slice A bs.length cap, .int .i64 seq] w fun e w' => ∃ (R : Option Addr) (cp : Nat) (fs : List FrN), e = .returned (.tuple #[.slice R fs.length cp, .int .i64 (T : Nat)]) ∧ Below w.heap.size w w' ∧ ScanGot w' R fs ∧ fs.map FrN.pair = P ∧ fs.length ≤ 1000000000 ∧ fs.length ≤ cp) ∧
      (Calls Try.prog 30 #[.slice A bs.length cap, .int .i64 seq] w fun e w' => ∃ (R : Option Addr) (cp : Nat) (fs : List FrN), e = .returned (.tuple #[.slice R fs.length cp, .int .i64 (T : Nat)]) ∧ Below w.heap.size w w' ∧ ScanGot w' R fs ∧ fs.map FrN.pair = P) := by
  by_cases h1 : seq < 1
  · refine ⟨[], 0, fun w g => ⟨?_, ?_⟩⟩
    · refine (scan_low A bs.length cap seq w h1).mono ?_
      rintro e w' ⟨rfl, rfl⟩
      exact ⟨none, 0, [], rfl, Below.refl _ _, ⟨fun i hi => by simp at hi, fun f hf => by simp at hf⟩, rfl, by simp, by simp⟩
    · refine (rscan_low A bs.length cap seq w h1).mono ?_
      rintro e w' ⟨rfl, rfl⟩
      exact ⟨none, 0, [], rfl, Below.refl _ _, ⟨fun i hi => by simp at hi, fun f hf => by simp at hf⟩, rfl⟩
  · obtain ⟨q, rfl⟩ : ∃ q : Nat, seq = (q : Int) := ⟨seq.toNat, by omega⟩
    have hcount : (scanL (bs.length + 1) q bs).length ≤ 1000000000 := by
      have key : ∀ (n s : Nat) (r : List Nat), 20 * (scanL n s r).length ≤ r.length := by
        intro n
        induction n with
        | zero => intro s r; simp [scanL]
        | succ n ih =>
          intro s r
          by_cases h : nextE r = 0 ∧ seqOf r = s
          · have z := nextE_zero h.1
            have := ih (s + 1) (r.drop (20 + lenOf r))
            rw [List.length_drop] at this
            simp only [scanL, if_pos h, List.length_cons]
            omega
          · simp [scanL, h]
      have := key (bs.length + 1) q bs
      omega
    refine ⟨scanL (bs.length + 1) q bs, scanT (bs.length + 1) q bs, fun w g => ⟨?_, ?_⟩⟩
    · refine (scan_any A cap bs q (bs.length + 1) w g (by omega) hlm (by omega)).mono ?_
      rintro e w' ⟨vo, fs, rfl, hb, ho, he, hp⟩
      have hfl : fs.length = (scanL (bs.length + 1) q bs).length := by rw [← hp]; simp
      obtain ⟨R, cp, rfl, hg⟩ := ScanGot.own ho (fun f hf => (he f hf).into)
      refine ⟨R, cp, fs, rfl, hb, hg, hp, by omega, ?_⟩
      rcases ho.2 with ⟨h1, h2⟩ | ⟨b, c, cur, h1, _, _, h2, _⟩
      · omega
      · injection h1 with _ _ h3; omega
    · refine (rscan_any A cap bs q (bs.length + 1) w g (by omega) hlm (by omega) (by omega)).mono ?_
      rintro e w' ⟨vo, fs, rfl, hr, hp⟩
      obtain ⟨R, cp, rfl, hg⟩ := ScanGot.own hr.row (fun f hf => (hr.each f hf).into)
      exact ⟨R, cp, fs, rfl, hr.old, hg, hp⟩
/-- both ways to take one, in one form: the same numbers and bytes -/
theorem next_both (A : Option Addr) (cap : Nat) (bs : List Nat) (hlm : bs.length ≤ 140737488355328) :
    ∃ (sq n : Nat) (D : List Nat), ∀ w, BytesIn w A cap bs →
      (Calls Try.prog 26 #[.slice A bs.length cap] w fun e w' => ∃ (A' : Option Addr) (k : Nat), e = .returned (.tuple #[.agg #[.int .i64 (sq : Nat), .slice A' D.length k], .int .i64 (n : Nat), .int .i64 (nextE bs : Nat)]) ∧ Below w.heap.size w w' ∧ BytesIn w' A' k D) ∧
      (Calls Try.prog 29 #[.slice A bs.length cap] w fun e w' => ∃ (A' : Option Addr) (k : Nat), e = .returned (.tuple #[.agg #[.int .i64 (sq : Nat), .slice A' D.length k], .int .i64 (n : Nat), .int .i64 (nextE bs : Nat)]) ∧ Below w.heap.size w w' ∧ BytesIn w' A' k D) := by
  by_cases h0 : nextE bs = 0
  · have key : ∀ w e w', AllBytes bs → NextPost bs w e w' → ∃ (A' : Option Addr) (k : Nat), e = .returned (.tuple #[.agg #[.int .i64 (seqOf bs : Nat), .slice A' (dataOf bs).length k], .int .i64 (20 + lenOf bs : Nat), .int .i64 (nextE bs : Nat)]) ∧ Below w.heap.size w w' ∧ BytesIn w' A' k (dataOf bs) := by
      rintro w e w' hab ⟨hb, h⟩
      rcases h with ⟨h1, _⟩ | ⟨_, v, rfl, ho⟩
      · exact absurd h0 h1
      · have hd : AllBytes (dataOf bs) := (hab.drop 20).take _
        obtain ⟨A', k, rfl, hin⟩ := own_in ho hd
        exact ⟨A', k, by rw [h0]; rfl, hb, hin⟩
    exact ⟨seqOf bs, 20 + lenOf bs, dataOf bs, fun w g => ⟨(next_any A cap bs w g hlm).mono fun e w' h => key w e w' g.bytes h, (rnext_any A cap bs w g hlm).mono fun e w' h => key w e w' g.bytes h⟩⟩
  · have key : ∀ w e w', NextPost bs w e w' → ∃ (A' : Option Addr) (k : Nat), e = .returned (.tuple #[.agg #[.int .i64 ((0 : Nat) : Int), .slice A' ([] : List Nat).length k], .int .i64 ((0 : Nat) : Int), .int .i64 (nextE bs : Nat)]) ∧ Below w.heap.size w w' ∧ BytesIn w' A' k [] := by
      rintro w e w' ⟨hb, h⟩
      rcases h with ⟨_, rfl⟩ | ⟨h1, _⟩
      · exact ⟨none, 0, rfl, hb, ⟨(fun c hc => by cases hc), Or.inl rfl, Nat.le_refl _, Nat.zero_le _, fun _ => rfl⟩⟩
      · exact absurd h1 h0
    exact ⟨0, 0, [], fun w g => ⟨(next_any A cap bs w g hlm).mono fun e w' h => key w e w' h, (rnext_any A cap bs w g hlm).mono fun e w' h => key w e w' h⟩⟩
set_option maxHeartbeats 1600000 in
theorem law_FrameNexts (w : World) (A : Option Addr) (cap : Nat) (bs : List Nat) (g : BytesIn w A cap bs) (z : bs.length ≤ 1048576) (a : Int) (ha : -9223372036854775808 ≤ a ∧ a ≤ 9223372036854775807) :
    Calls Try.prog 14 #[.slice A bs.length cap, .int .i64 a] w (LawPost w) := by
  obtain ⟨sq, n, D, hN⟩ := next_both A cap bs (by omega)
  obtain ⟨P, T, hS⟩ := scan_uni A cap bs a ha (by omega)
  have HN := Lib.hid hN
  have HS := Lib.hid hS
  have G := Lib.hid g
  clear hN hS g
  generalize nextE bs = ne at HN
  have e1 : ((sq : Int) == (sq : Int)) = true := beq_self_eq_true _
  have e2 : ((n : Int) == (n : Int)) = true := beq_self_eq_true _
  have e3 : ((ne : Int) == (ne : Int)) = true := beq_self_eq_true _
  have e4 : ((T : Int) == (T : Int)) = true := beq_self_eq_true _
  go_enter Try.func14, Try.ntmps14
  go_wp2_with fail
  refine ((HN.out w G.out).1).mono ?_
  rintro e w1 ⟨A1, k1, rfl, hb1, g1⟩
  have HB1 := Lib.hid (hb1.alloc (Nat.le_trans (Nat.le_refl _) hb1.size) (Obj.cells #[.int .i64 (sq : Nat), .slice A1 D.length k1] 41))
  have G1 := Lib.hid (g1.below ((Below.refl _ _).alloc (Nat.le_refl _) (Obj.cells #[.int .i64 (sq : Nat), .slice A1 D.length k1] 41)))
  have K1 := Lib.hid (heap_alloc_new w1 (Obj.cells #[.int .i64 (sq : Nat), .slice A1 D.length k1] 41))
  clear hb1 g1
  go_wp2_with fail
  generalize w1.alloc (Obj.cells #[.int .i64 (sq : Nat), .slice A1 D.length k1] 41) = v1 at HB1 G1 K1 ⊢
  refine ((HN.out v1 (G.out.below HB1.out)).2).mono ?_
  rintro e w2 ⟨A2, k2, rfl, hb2, g2⟩
  have HB2 := Lib.hid (hb2.alloc hb2.size (Obj.cells #[.int .i64 (sq : Nat), .slice A2 D.length k2] 37))
  have G2 := Lib.hid (g2.below ((Below.refl _ _).alloc (Nat.le_refl _) (Obj.cells #[.int .i64 (sq : Nat), .slice A2 D.length k2] 37)))
  have K2 := Lib.hid (heap_alloc_new w2 (Obj.cells #[.int .i64 (sq : Nat), .slice A2 D.length k2] 37))
  clear hb2 g2
  go_wp2_with fail
  generalize w2.alloc (Obj.cells #[.int .i64 (sq : Nat), .slice A2 D.length k2] 37) = v2 at HB2 G2 K2 ⊢
  have HW2 := Lib.hid (HB1.out.trans (HB2.out.mono HB1.out.size))
  refine ((HS.out v2 (G.out.below HW2.out)).1).mono ?_
  rintro e w3 ⟨R3, c3, fs3, rfl, hb3, g3, hp3, hl3, hc3⟩
  have HB3 := Lib.hid hb3
  have G3 := Lib.hid g3
  have HP3 := Lib.hid hp3
  have HW3 := Lib.hid (HW2.out.trans (hb3.mono HW2.out.size))
  clear hb3 g3 hp3
  go_wp2_with fail
  refine ((HS.out w3 (G.out.below HW3.out)).2).mono ?_
  rintro e w4 ⟨R4, c4, fs4, rfl, hb4, g4, hp4⟩
  have HB4 := Lib.hid hb4
  have G4 := Lib.hid g4
  have HP4 := Lib.hid hp4
  have HW4 := Lib.hid (HW3.out.trans (hb4.mono HW3.out.size))
  clear hb4 g4 hp4
  have L1 := block_lt K1.out
  have L2 := block_lt K2.out
  have HV1 := Lib.hid (HB2.out.trans ((HB3.out.trans (HB4.out.mono HB3.out.size)).mono HB2.out.size))
  have HV2 := Lib.hid (HB3.out.trans (HB4.out.mono HB3.out.size))
  have x0 := (HV1.out.cell (p := ⟨w1.heap.size, 0, none⟩) L1).trans (block_cell K1.out 0)
  have x1 := (HV1.out.cell (p := ⟨w1.heap.size, 1, none⟩) L1).trans (block_cell K1.out 1)
  have y0 := (HV2.out.cell (p := ⟨w2.heap.size, 0, none⟩) L2).trans (block_cell K2.out 0)
  have y1 := (HV2.out.cell (p := ⟨w2.heap.size, 1, none⟩) L2).trans (block_cell K2.out 1)
  have kx := conv_bytes A1 k1 D w4 ((G1.out.below HV1.out).at_)
  have ky := conv_bytes A2 k2 D w4 ((G2.out.below HV2.out).at_)
  have hs := strList_self (strOf D)
  generalize strOf D = str at kx ky hs
  clear L1 L2
  go_wp2_with fail
  refine (ours_any R3 fs3 c3 w4 (G3.out.below HB4.out) hl3).mono ?_
  rintro e w5 ⟨R5, c5, rfl, hb5, g5⟩
  have HB5 := Lib.hid hb5
  have G5 := Lib.hid g5
  clear hb5 g5
  have RS := Lib.hid (rsame_any R5 R4 fs3 fs4 c5 c4 w5 G5.out (G4.out.below HB5.out) (by rw [HP3.out, HP4.out]) hl3)
  go_wp2_with fail
  refine RS.out.mono ?_
  rintro e w6 ⟨rfl, hb6⟩
  have HB6 := Lib.hid (HB5.out.trans (hb6.mono HB5.out.size))
  clear hb6
  have FS := Lib.hid (fsame_any R3 fs3 c3 w6 (G3.out.below (HB4.out.trans (HB6.out.mono HB4.out.size))) hl3 hc3)
  go_wp2_with fail
  refine FS.out.mono ?_
  rintro e w7 ⟨rfl, hb7⟩
  have HB7 := Lib.hid (HB6.out.trans (hb7.mono HB6.out.size))
  clear hb7
  go_wp2_with fail
  refine (falive_any _).mono ?_
  rintro e w8 ⟨rfl, hb8⟩
  have HB8 := Lib.hid (HB7.out.trans (hb8.mono HB7.out.size))
  clear hb8
  go_wp2_with fail
  go_ret
  exact ⟨rfl, HW4.out.trans (HB8.out.mono HW4.out.size)⟩
end Go.Proofs.Ythmmhbeafbdglaa
