/- Walks of the reference's package for signs: is a number a sign, a sign's bytes, the guess, the search for the first sign. Conditions: strings within the model's bounds. -/
import Derived.Test.YtpgncjfmaeiaaaaDoorUtPure
import Derived.Test.YtpgncjfmaeiaaaaDoorProg
import Derived.WalkKit
import Derived.Below
import Derived.BigQuiet
import Derived.Deep.QuietTactic
import Derived.Deep.LoopGhost
import Derived.Deep.DeepCutAuto
import Derived.IntWalk
import Derived.Lib.Hide
import Derived.Lib.IndexBytes
import Derived.Laws.BytesArg
set_option linter.unusedVariables false
namespace Go.Proofs.YtpgncjfmaeiaaaaDoor
open Go.RowKit
theorem sign_any (n : Int) (w : World) : Calls Tryd.prog 60 #[.int .i64 n] w fun e w' => e = .returned (.bool (signB n)) ∧ w = w' := by
  by_cases h0 : 0 ≤ n
  · by_cases h1 : n ≤ 1114111
    · by_cases h2 : n < 55296
      · have hs := Lib.hid (signB_iff.2 ⟨h0, h1, Or.inl h2⟩)
        go_enter Tryd.func60, Tryd.ntmps60
        go_wp2
        go_ret
        exact ⟨by rw [hs.out]; rfl, rfl⟩
      · have h2' : decide (n < 55296) = false := by simpa using h2
        by_cases h3 : 57343 < n
        · have hs := Lib.hid (signB_iff.2 ⟨h0, h1, Or.inr h3⟩)
          go_enter Tryd.func60, Tryd.ntmps60
          go_wp2
          go_ret
          exact ⟨by rw [hs.out]; rfl, rfl⟩
        · have h3' : decide (57343 < n) = false := by simpa using h3
          have hs := Lib.hid (signB_not.2 (fun h => by omega) : signB n = false)
          go_enter Tryd.func60, Tryd.ntmps60
          go_wp2
          go_ret
          exact ⟨by rw [hs.out]; rfl, rfl⟩
    · have h1' : decide (n ≤ 1114111) = false := by simpa using h1
      have hs := Lib.hid (signB_not.2 (fun h => by omega) : signB n = false)
      go_enter Tryd.func60, Tryd.ntmps60
      go_wp2
      go_ret
      exact ⟨by rw [hs.out]; rfl, rfl⟩
  · have h0' : decide (0 ≤ n) = false := by simpa using h0
    have hs := Lib.hid (signB_not.2 (fun h => by omega) : signB n = false)
    go_enter Tryd.func60, Tryd.ntmps60
    go_wp2
    go_ret
    exact ⟨by rw [hs.out]; rfl, rfl⟩
/-- a sign's bytes, laid -/
def BytesPost (n : Int) (w : World) (e : Ending) (w' : World) : Prop :=
  e = .returned (.slice (some ⟨w.heap.size, 0, none⟩) (Lib.encodeRune n).length (Lib.encodeRune n).length) ∧ w' = w.alloc (.cells (Lib.runeCells n).toArray 5)
theorem wrapb {x : Int} (h : 0 ≤ x ∧ x < 256) : IntKind.u8.wrap x = x := IntWalk.u8_in _ ⟨by omega, by omega⟩
set_option maxHeartbeats 800000 in
theorem bytes_any (n : Int) (w : World) (h : signB n = true) : Calls Tryd.prog 61 #[.int .i64 n] w (BytesPost n w) := by
  obtain ⟨h0, h1, h2⟩ := signB_iff.1 h
  clear h
  by_cases c1 : n < 128
  · have hz := Lib.hid (Lib.encodeRuneZ_one h0 (by omega : n ≤ 127))
    have hw := wrapb (x := n) (by omega)
    clear h2
    go_enter Tryd.func61, Tryd.ntmps61
    go_wp2
    go_ret
    unfold BytesPost Lib.runeCells
    rw [encodeRune_length, hz.out]
    exact ⟨rfl, rfl⟩
  · have c1' : decide (n < 128) = false := by simpa using c1
    have hd1 : 0 ≤ n / 64 ∧ 0 ≤ n % 64 ∧ n % 64 < 64 ∧ 0 ≤ n / 4096 ∧ 0 ≤ n / 262144 ∧ 0 ≤ n / 64 % 64 ∧ n / 64 % 64 < 64 ∧ 0 ≤ n / 4096 % 64 ∧ n / 4096 % 64 < 64 := by omega
    obtain ⟨d1, d2, d3, d4, d5, d6, d7, d8, d9⟩ := hd1
    by_cases c2 : n < 2048
    · have hz := Lib.hid (Lib.encodeRuneZ_two (by omega) (by omega : n ≤ 2047))
      have hw := wrapb (x := 192 + n / 64) (by omega)
      have hw2 := wrapb (x := 128 + n % 64) (by omega)
      have b1 : n / 64 ≤ 32 := by omega
      clear h2
      go_enter Tryd.func61, Tryd.ntmps61
      go_wp2
      go_ret
      unfold BytesPost Lib.runeCells
      rw [encodeRune_length, hz.out]
      exact ⟨rfl, rfl⟩
    · have c2' : decide (n < 2048) = false := by simpa using c2
      by_cases c3 : n < 65536
      · have hz := Lib.hid (Lib.encodeRuneZ_three (r := n) (by omega))
        have hw := wrapb (x := 224 + n / 4096) (by omega)
        have hw2 := wrapb (x := 128 + n / 64 % 64) (by omega)
        have hw3 := wrapb (x := 128 + n % 64) (by omega)
        have b1 : n / 4096 ≤ 16 := by omega
        have b2 : n / 64 ≤ 1024 := by omega
        clear h2
        go_enter Tryd.func61, Tryd.ntmps61
        go_wp2
        go_ret
        unfold BytesPost Lib.runeCells
        rw [encodeRune_length, hz.out]
        exact ⟨rfl, rfl⟩
      · have c3' : decide (n < 65536) = false := by simpa using c3
        have hz := Lib.hid (Lib.encodeRuneZ_four (r := n) (by omega) (by omega))
        have hw := wrapb (x := 240 + n / 262144) (by omega)
        have hw2 := wrapb (x := 128 + n / 4096 % 64) (by omega)
        have hw3 := wrapb (x := 128 + n / 64 % 64) (by omega)
        have hw4 := wrapb (x := 128 + n % 64) (by omega)
        have b1 : n / 262144 ≤ 5 := by omega
        have b2 : n / 64 ≤ 20000 := by omega
        have b3 : n / 4096 ≤ 300 := by omega
        clear h2
        go_enter Tryd.func61, Tryd.ntmps61
        go_wp2
        go_ret
        unfold BytesPost Lib.runeCells
        rw [encodeRune_length, hz.out]
        exact ⟨rfl, rfl⟩
theorem byte_at (s : ByteArray) (k : Nat) (h : k < s.size) : s.data.toList.getD k 0 = s[k]'h := by
  have h' : k < s.data.toList.length := by simpa using h
  rw [List.getD_eq_getElem?_getD, List.getElem?_eq_getElem h']
  rfl
theorem index_str (s : ByteArray) (k : Nat) (h : k + 1 < s.size) : ∀ W, (Instr.index 9 (.string s) (.int .i64 ((k : Int) + 1))).run Tryd.prog W = .ok (.int .u8 ((s[k + 1]'h).toNat : Int)) W := by
  intro W
  rw [run_index_string W 9 s .i64 _ Tryd.underlying9, dif_pos ⟨by omega, by omega⟩]
  rfl
set_option maxHeartbeats 800000 in
theorem guess_more (s : ByteArray) (many : Nat) (w : World) (h1 : 2 ≤ many) (h4 : many ≤ 4) (hs : many ≤ s.size) (hm : s.size ≤ 9223372036854775807) :
    Calls Tryd.prog 59 #[.string s, .int .i64 (many : Nat)] w fun e w' => e = .returned (.int .i64 (guessL s.data.toList many)) ∧ Below w.heap.size w w' := by
  have HB : Hid (∀ (o : Obj) (n : Nat), Below w.heap.size w ((w.alloc o).drewN n)) := fun o n => by
    have h := (Below.refl w.heap.size w).alloc (Nat.le_refl _) o
    exact ⟨h.os, h.tape, h.output, h.size, h.block⟩
  have h0 : 0 < s.size := by omega
  have hc5 : IntKind.i64.wrap ((s[0]'(by omega)).toNat : Int) = ((s[0]'(by omega)).toNat : Int) := IntWalk.i64_in _ ⟨by omega, by have := UInt8.toNat_lt (s[0]'(by omega)); omega⟩
  have HK : Hid (∀ (k : Nat) (h : k < s.size), ((s.data.toList.getD k 0).toNat : Int) = ((s[k]'h).toNat : Int)) := fun k h => by rw [byte_at s k h]
  have hb0 : (s[0]'(by omega)).toNat < 256 := UInt8.toNat_lt _
  obtain ⟨c, hc⟩ : ∃ c, c = many := ⟨_, rfl⟩
  have HC := Lib.hid hc
  have HBD := Lib.hid (gAt_bound s.data.toList c)
  have HF : Hid (∀ k, gAt s.data.toList c (k + 1) = gAt s.data.toList c k * 64 + ((s.data.toList.getD (k + 1) 0).toNat : Int) - 128) := fun k => rfl
  have H0 : Hid (gAt s.data.toList c 0 = ((s[0]'(by omega)).toNat : Int) - firstN c) := by show _ = _; rw [← HK.out 0 (by omega)]; rfl
  obtain rfl | rfl | rfl : many = 2 ∨ many = 3 ∨ many = 4 := by omega
  all_goals
    clear hc
    go_enter Tryd.func59, Tryd.ntmps59
    go_wp2_with fail
    go_quiet (fail)
    go_wp2_with fail
    go_loop [6, 7] (fun x i => ∃ k : Nat, k < c ∧ i = .int .i64 ((k : Int) + 1) ∧ x = .int .i64 (gAt s.data.toList c k)) (fun _ i => 5 - (intOf i).toNat)
    case atStart => exact ⟨0, by rw [HC.out]; omega, rfl, by rw [H0.out, HC.out]; rfl⟩
    case round =>
      obtain ⟨k, hk, rfl, rfl⟩ := hrel
      have hcm := HC.out
      by_cases hlt : k + 1 < c
      · have hks : k + 1 < s.size := by omega
        have HF1 := Lib.hid (HF.out k)
        have hgb := HBD.out k (by omega)
        have hgb' := HBD.out (k + 1) (by omega)
        have HKK := Lib.hid (HK.out (k + 1) hks)
        have hbb : (s[k + 1]'hks).toNat < 256 := UInt8.toNat_lt _
        have hix : ∀ W, (Instr.index 9 (.string s) (.int .i64 ((k : Int) + 1))).run Tryd.prog W = .ok (.int .u8 ((s[k + 1]'hks).toNat : Int)) W := index_str s k hks
        generalize (s[k + 1]'hks).toNat = bt at hbb hix HKK
        have HN : Hid (gAt s.data.toList c k * 64 + (bt : Int) - 128 = gAt s.data.toList c (k + 1)) := by
          show _ = _
          rw [HF1.out, HKK.out]
        have hn : gAt s.data.toList c k * 64 + (bt : Int) - 128 ≤ 1000000000 ∧ -1000000000 ≤ gAt s.data.toList c k * 64 + (bt : Int) - 128 := by rw [HN.out]; exact ⟨hgb'.2, hgb'.1⟩
        clear hgb' HKK HF1
        generalize gAt s.data.toList c k = gg at hgb hn HN ⊢
        obtain ⟨hn1, hn2⟩ := hn
        obtain ⟨hg1, hg2⟩ := hgb
        have hlt' : (k : Int) + 1 < (c : Int) := by omega
        rw [hcm] at hlt'
        have HM := Lib.hid hcm
        have HLT := Lib.hid hlt
        clear hcm hlt hk
        go_wp2
        go_round
        case rel => exact ⟨k + 1, HLT.out, by go_num, by rw [← HN.out]⟩
        case measure => simp [intOf]; omega
      · have HE : Hid (gAt s.data.toList c k = guessL s.data.toList c) := by show _ = gAt _ _ _; rw [show c - 1 = k by omega]
        have HM := Lib.hid hcm
        generalize gAt s.data.toList c k = gg at HE ⊢
        have hk0 : k = c - 1 := by omega
        rw [hcm] at hk0
        simp only [Nat.reduceSub] at hk0
        clear hcm hlt hk
        subst hk0
        go_wp2
        go_ret
        refine ⟨?_, HB.out _ _⟩
        rw [HE.out, HM.out]
        rfl
set_option maxHeartbeats 800000 in
theorem guess_one (s : ByteArray) (w : World) (hs : 1 ≤ s.size) (hm : s.size ≤ 9223372036854775807) :
    Calls Tryd.prog 59 #[.string s, .int .i64 1] w fun e w' => e = .returned (.int .i64 (guessL s.data.toList 1)) ∧ Below w.heap.size w w' := by
  have HB : Hid (∀ (o : Obj) (n : Nat), Below w.heap.size w ((w.alloc o).drewN n)) := fun o n => by
    have h := (Below.refl w.heap.size w).alloc (Nat.le_refl _) o
    exact ⟨h.os, h.tape, h.output, h.size, h.block⟩
  have h0 : 0 < s.size := by omega
  have hc5 : IntKind.i64.wrap ((s[0]'(by omega)).toNat : Int) = ((s[0]'(by omega)).toNat : Int) := IntWalk.i64_in _ ⟨by omega, by have := UInt8.toNat_lt (s[0]'(by omega)); omega⟩
  have hb0 : (s[0]'(by omega)).toNat < 256 := UInt8.toNat_lt _
  have H0 : Hid (guessL s.data.toList 1 = ((s[0]'(by omega)).toNat : Int) - 0) := by show _ = _; rw [← byte_at s 0 (by omega)]; rfl
  go_enter Tryd.func59, Tryd.ntmps59
  go_wp2_with fail
  go_quiet (fail)
  go_wp2_with fail
  go_loop [6, 7] (fun x i => i = .int .i64 1 ∧ x = .int .i64 (guessL s.data.toList 1)) (fun _ i => 5 - (intOf i).toNat)
  case atStart => exact ⟨rfl, by rw [H0.out]; simp⟩
  case round =>
    obtain ⟨rfl, rfl⟩ := hrel
    go_wp2
    go_ret
    exact ⟨rfl, HB.out _ _⟩
theorem guess_any (s : ByteArray) (many : Nat) (w : World) (h1 : 1 ≤ many) (h4 : many ≤ 4) (hs : many ≤ s.size) (hm : s.size ≤ 9223372036854775807) :
    Calls Tryd.prog 59 #[.string s, .int .i64 (many : Nat)] w fun e w' => e = .returned (.int .i64 (guessL s.data.toList many)) ∧ Below w.heap.size w w' := by
  rcases Nat.lt_or_ge 1 many with h | h
  · exact guess_more s many w h h4 hs hm
  · obtain rfl : many = 1 := by omega
    exact guess_one s w hs hm
theorem strOf_cells (l : List UInt8) : strOfNums (l.map fun c => (c.toNat : Int)) = ⟨l.toArray⟩ := by
  have h : (strOfNums (l.map fun c => (c.toNat : Int))).data.toList = l := by
    rw [strOfNums_data, List.map_map]
    simp [Function.comp_def]
  generalize strOfNums (l.map fun c => (c.toNat : Int)) = x at h
  obtain ⟨d⟩ := x
  simp only at h
  rw [← h, Array.toArray_toList]
/-- bytes that lie in a block, as a string -/
theorem conv_cells (w : World) (b off cap : Nat) (l : List UInt8) (h : ∀ i, i < l.length → w.cell? ⟨b, off + i, none⟩ = some (.int .u8 ((l.getD i 0).toNat : Int))) :
    (convert 103 9 (.slice (some ⟨b, off, none⟩) l.length cap)).run Tryd.prog w = .ok (.string ⟨l.toArray⟩) w := by
  rw [← strOf_cells l]
  refine run_convert_bytes_arg w 103 5 Tryd.underlying103 Tryd.underlying5 b off l.length cap _ (by simp) (fun i hi => ?_) _ Tryd.underlying9
  rw [h i hi]
  simp [List.getD_eq_getElem?_getD, hi]
theorem rune_cell {w : World} {b : Nat} {n : Int} {t : TypeId} {r : Nat × Nat} (h : w.heap[b]? = some (.cells (Lib.runeCells n).toArray t r)) (i : Nat) (hi : i < (Lib.encodeRune n).length) :
    w.cell? ⟨b, 0 + i, none⟩ = some (.int .u8 (((Lib.encodeRune n).getD i 0).toNat : Int)) := by
  rw [Nat.zero_add, cell_of_row w b i _ t r h, ← Lib.byteCells_encodeRune]
  simp [Lib.byteCells, List.getD_eq_getElem?_getD, hi]
theorem ext_bytes {a b : ByteArray} (h : a.data.toList = b.data.toList) : a = b := by
  cases a; cases b
  congr 1
  exact Array.toList_inj.1 h
theorem toList_eq_iff (a b : ByteArray) : (a.toList == b.toList) = decide (a = b) := by
  by_cases h : a = b
  · subst h; simp
  · rw [decide_eq_false h, beq_eq_false_iff_ne]
    intro e
    exact h (ext_bytes (by rw [← Lib.toList_data, ← Lib.toList_data, e]))
theorem str_of (l : List UInt8) : (⟨l.toArray⟩ : ByteArray).data.toList = l := by simp
theorem str_size (l : List UInt8) : (⟨l.toArray⟩ : ByteArray).size = l.length := by simp [ByteArray.size]
theorem head_eq_iff (s : ByteArray) (l : List UInt8) : (s.extract 0 l.length = ⟨l.toArray⟩) ↔ s.data.toList.take l.length = l := by
  constructor
  · intro h
    have := congrArg (fun x : ByteArray => x.data.toList) h
    simp only [Lib.extract_data, List.drop_zero, Nat.sub_zero] at this
    exact this
  · intro h
    exact ext_bytes (by rw [Lib.extract_data, str_of, List.drop_zero, Nat.sub_zero]; exact h)
set_option maxHeartbeats 800000 in
theorem begins_any (s : ByteArray) (n : Int) (w : World) (h : signB n = true) (hm : s.size ≤ 9223372036854775807) :
    Calls Tryd.prog 62 #[.string s, .int .i64 n] w fun e w' => e = .returned (.bool (decide (s.data.toList.take (Lib.encodeRune n).length = Lib.encodeRune n))) ∧ Below w.heap.size w w' := by
  have B : Hid (Calls Tryd.prog 61 #[.int .i64 n] w fun e w' => e = .returned (.slice (some ⟨w.heap.size, 0, none⟩) (Lib.encodeRune n).length (Lib.encodeRune n).length) ∧ w.alloc (.cells (Lib.runeCells n).toArray 5) = w') := (bytes_any n w h).mono fun e w' h => ⟨h.1, h.2.symm⟩
  have HB := Lib.hid ((Below.refl w.heap.size w).alloc (Nat.le_refl _) (.cells (Lib.runeCells n).toArray 5))
  have hx := conv_cells (w.alloc (.cells (Lib.runeCells n).toArray 5)) w.heap.size 0 (Lib.encodeRune n).length (Lib.encodeRune n) (rune_cell (heap_alloc_new w _))
  have HQ : Hid (∀ b : ByteArray, b = ⟨(Lib.encodeRune n).toArray⟩ → ((s.extract 0 b.size).toList == b.toList) = decide (s.data.toList.take (Lib.encodeRune n).length = Lib.encodeRune n)) := by
    rintro b rfl
    rw [toList_eq_iff, str_size]
    exact decide_eq_decide.2 (head_eq_iff s _)
  have HL : Hid ((⟨(Lib.encodeRune n).toArray⟩ : ByteArray).size = (Lib.encodeRune n).length) := str_size _
  have HS : Hid (s.data.toList.length = s.size) := rfl
  have hk := encodeRune_le n
  obtain ⟨b, hb⟩ : ∃ b : ByteArray, b = ⟨(Lib.encodeRune n).toArray⟩ := ⟨_, rfl⟩
  rw [← hb] at hx HL
  have HQ2 := Lib.hid (HQ.out b hb)
  have hbs : b.size ≤ 4 := by rw [HL.out]; exact hk.2
  have HD : Hid (¬ b.size ≤ s.size → decide (s.data.toList.take (Lib.encodeRune n).length = Lib.encodeRune n) = false) := by
    intro hgt
    rw [decide_eq_false_iff_not]
    intro e
    have := congrArg List.length e
    rw [List.length_take, HS.out] at this
    rw [HL.out] at hgt
    omega
  generalize decide (s.data.toList.take (Lib.encodeRune n).length = Lib.encodeRune n) = d at HQ2 HD ⊢
  clear HQ hb hk HL HS
  generalize (Lib.encodeRune n).length = k at hx B
  have hz : IntKind.i64.wrap (b.size : Int) = (b.size : Int) := IntWalk.i64_in _ ⟨by omega, by omega⟩
  by_cases hle : b.size ≤ s.size
  · have hle' : (b.size : Int) ≤ (s.size : Int) := by omega
    have hq := HQ2.out
    have hsl : ∀ W, (Instr.sliceAt 9 (.string s) none (some (.int .i64 (b.size : Int))) none).run Tryd.prog W = .ok (.string (s.extract 0 b.size)) W := by
      intro W
      rw [run_sliceAt_string W _ _ _ _ _ Tryd.underlying9]
      have hbd : (Instr.sliceBound (.int .i64 (b.size : Int)) s.size .sliceAlen).run Tryd.prog W = .ok b.size W := run_sliceBound _ .i64 (b.size : Int) s.size .sliceAlen (by omega) (by omega)
      simp [Instr.slice, run_underlying Tryd.underlying9, Instr.sliceBounds, hbd]
    generalize s.extract 0 b.size = c at hsl hq
    clear HD HQ2
    go_enter Tryd.func62, Tryd.ntmps62
    go_wp2_with fail
    refine B.out.mono ?_
    rintro e w1 ⟨rfl, rfl⟩
    go_wp2_with fail
    go_ret
    exact ⟨rfl, HB.out⟩
  · have hle' : decide ((b.size : Int) ≤ (s.size : Int)) = false := by simp; omega
    have hle2 : decide (b.size ≤ s.size) = false := by simpa using hle
    have hd := HD.out hle
    clear HD HQ2 hle
    go_enter Tryd.func62, Tryd.ntmps62
    go_wp2_with fail
    refine B.out.mono ?_
    rintro e w1 ⟨rfl, rfl⟩
    go_wp2_with fail
    go_ret
    exact ⟨by rw [hd]; rfl, HB.out⟩
end Go.Proofs.YtpgncjfmaeiaaaaDoor
