import Derived.Test.YthmmhbeafbdglaaFrYes
namespace Go.Proofs.Ythmmhbeafbdglaa
open Go.RowKit
/-- the frames in a row, and the bytes they take -/
def scanL : Nat → Nat → List Nat → List (Nat × List Nat)
  | 0, _, _ => []
  | n + 1, s, r => if nextE r = 0 ∧ seqOf r = s then (s, dataOf r) :: scanL n (s + 1) (r.drop (20 + lenOf r)) else []
def scanT : Nat → Nat → List Nat → Nat
  | 0, _, _ => 0
  | n + 1, s, r => if nextE r = 0 ∧ seqOf r = s then 20 + lenOf r + scanT n (s + 1) (r.drop (20 + lenOf r)) else 0
def FrN.pair (f : FrN) : Nat × List Nat := (f.seq, f.bs)
theorem nextE_zero {r : List Nat} (h : nextE r = 0) : 20 ≤ r.length ∧ lenOf r ≤ 262144 ∧ 1 ≤ seqOf r ∧ seqOf r ≤ 4611686018427387904 ∧ 20 + lenOf r ≤ r.length := by
  unfold nextE at h
  split at h
  · cases h
  · split at h
    · cases h
    · split at h
      · cases h
      · split at h
        · cases h
        · split at h
          · cases h
          · omega
/-- what 'Scan' answers -/
def ScanPost (w : World) (N : Nat) (seq : Nat) (bs : List Nat) (e : Ending) (w' : World) : Prop :=
  ∃ (vo : Value) (fs : List FrN), e = .returned (.tuple #[vo, .int .i64 (scanT N seq bs : Nat)]) ∧ Below w.heap.size w w' ∧ w'.ownsRow w.heap.size 41 2 vo fs.length (frameCells fs) ∧ (∀ f ∈ fs, OwnD w' w.heap.size f) ∧ fs.map FrN.pair = scanL N seq bs
def ScanInv (w : World) (A : Option Addr) (cap : Nat) (bs : List Nat) (seq N : Nat) (m : Nat) (wr : World) : Prop :=
  ∃ (at_ : Nat) (vo : Value) (fs : List FrN), Scn w wr w.heap.size A cap bs at_ (seq + fs.length) vo fs ∧ at_ ≤ bs.length ∧ 20 * fs.length ≤ at_ ∧ fs.map FrN.pair ++ scanL m (seq + fs.length) (bs.drop at_) = scanL N seq bs ∧ at_ + scanT m (seq + fs.length) (bs.drop at_) = scanT N seq bs ∧ bs.length < at_ + m
theorem slice_rest (A : Option Addr) (cap : Nat) (bs : List Nat) (at_ : Nat) (h : at_ ≤ bs.length) : ∀ W, (Instr.sliceAt 28 (.slice A bs.length cap) (some (.int .i64 (at_ : Nat))) none none).run Try.prog W = .ok (.slice (subA A at_ cap) (bs.drop at_).length (cap - at_)) W := by
  intro W
  rw [List.length_drop]
  exact slice_from A bs.length cap at_ h W
set_option maxHeartbeats 1600000 in
theorem scan_any (A : Option Addr) (cap : Nat) (bs : List Nat) (seq N : Nat) (w : World) (g : BytesIn w A cap bs) (hN : bs.length < N) (hlm : bs.length ≤ 1000000000) (h1 : 1 ≤ seq) :
    Calls Try.prog 28 #[.slice A bs.length cap, .int .i64 (seq : Nat)] w (ScanPost w N seq bs) := by
  have G := Lib.hid g
  have HLM := Lib.hid hlm
  have HS1 := Lib.hid h1
  have hlt : ((seq : Int) < 1) = False := by simp; omega
  have HN := Lib.hid hN
  clear g hlm h1 hN
  go_enter Try.func28, Try.ntmps28
  go_wp2_with fail
  go_loopg [] N (fun m wr => Hid (ScanInv w A cap bs seq N m wr))
  case atStart =>
    exact ⟨0, .slice none 0 0, [], ⟨heap_alloc_new _ _, Nat.le_refl _, (Below.refl _ _).alloc (Nat.le_refl _) _, ⟨by simp [frameCells], Or.inl ⟨rfl, rfl⟩⟩, by simp⟩, Nat.zero_le _, Nat.le_refl _, rfl, by simp, by have := HN.out; omega⟩
  case round =>
    obtain ⟨at_, vo, fs, hscn, hat, hfs, hL, hT, hm⟩ := hrel.out
    have HL := HLM.out
    have h1 := HS1.out
    have gr := (G.out.below hscn.old).drop at_
    obtain ⟨m, rfl⟩ : ∃ m, gk = m + 1 := ⟨gk - 1, by omega⟩
    by_cases hy : nextE (bs.drop at_) = 0 ∧ seqOf (bs.drop at_) = seq + fs.length
    · obtain ⟨z1, z2, z3, z4, z5⟩ := nextE_zero hy.1
      have Y := Lib.hid (one_yes w wr w.heap.size A cap bs at_ (seq + fs.length) vo fs hscn (subA A at_ cap) (cap - at_) (bs.drop at_) (slice_rest A cap bs at_ hat) (G.out.drop at_) (by simp; omega) hy.1 hy.2 (by omega) (by omega) z2 (by have := hy.2; omega))
      simp only [scanL, scanT, if_pos hy, List.drop_drop] at hL hT
      have HL := Lib.hid hL
      have HT := Lib.hid hT
      have HY := Lib.hid hy
      rw [List.length_drop] at z5
      clear hL hT hy hrel hscn gr
      go_wp2_with fail
      refine Y.out.mono ?_
      rintro e w' ⟨rfl, hb, vo', A', k, hs⟩
      have HS := Lib.hid hs
      clear hs hb
      go_wp2_with fail
      go_roundg m
      case measure => omega
      case rel =>
        refine ⟨at_ + (20 + lenOf (bs.drop at_)), vo', fs ++ [⟨seq + fs.length, A', k, dataOf (bs.drop at_)⟩], by simpa [Nat.add_assoc] using HS.out, by omega, by simp; omega, ?_, ?_, by omega⟩
        · rw [← HL.out]; simp [FrN.pair, Nat.add_assoc]
        · rw [← HT.out]; simp [Nat.add_assoc]
    · have Y := Lib.hid (one_no w wr w.heap.size A cap bs at_ (seq + fs.length) vo fs hscn (subA A at_ cap) (cap - at_) (bs.drop at_) (slice_rest A cap bs at_ hat) (G.out.drop at_) (by simp; omega) (by
        by_cases h0 : nextE (bs.drop at_) = 0
        · exact Or.inr (fun h => hy ⟨h0, h⟩)
        · exact Or.inl h0))
      simp only [scanL, scanT, if_neg hy] at hL hT
      have HL := Lib.hid hL
      have HT := Lib.hid hT
      have HSC := Lib.hid hscn
      clear hL hT hy hrel hscn gr
      go_wp2_with fail
      refine Y.out.mono ?_
      rintro e w' ⟨rfl, hb⟩
      have HS := Lib.hid (HSC.out.below hb)
      have q3 := block_cell HS.out.blk 3
      have q1 := block_cell HS.out.blk 1
      clear hb
      go_wp2_with fail
      go_quiet (fail)
      go_wp2_with fail
      have hat' : at_ = scanT N seq bs := by simpa using HT.out
      have hl' : fs.map FrN.pair = scanL N seq bs := by simpa using HL.out
      exact bodyPost_ret (v := .tuple #[vo, .int .i64 (at_ : Nat)]) (by simp [results, Try.results28, go_sem]) rfl ⟨vo, fs, by rw [hat'], below_ddrewN HS.out.old _, own_lower HS.out.row (by omega), fun f hf => ⟨own_lower (HS.out.each f hf).own (by omega), (HS.out.each f hf).bytes⟩, hl'⟩
theorem scan_low (A : Option Addr) (len cap : Nat) (seq : Int) (w : World) (h : seq < 1) :
    Calls Try.prog 28 #[.slice A len cap, .int .i64 seq] w fun e w' => e = .returned (.tuple #[.slice none 0 0, .int .i64 0]) ∧ w' = w := by
  go_enter Try.func28, Try.ntmps28
  go_wp2_with fail
  exact bodyPost_ret (v := .tuple #[.slice none 0 0, .int .i64 0]) (by simp [results, Try.results28, go_sem]) rfl ⟨rfl, rfl⟩
end Go.Proofs.Ythmmhbeafbdglaa
