/- Walks: which signs are printable, a fault at a place, and the walk over a text at its three function values. Conditions: strings within the model's bounds; the decoder's two tables as they are laid. -/
import Derived.Test.YtpgncjfmaeiaaaaDoorUtFirst
import Derived.Laws.AppendOwn
import Derived.ProofKit
set_option linter.unusedVariables false
namespace Go.Proofs.YtpgncjfmaeiaaaaDoor
open Go.RowKit
def Tabs (w : World) : Prop := Lib.Utf8Tabs 2 3 w
theorem Tabs.below {w w' : World} (h : Tabs w) (hb : Below w.heap.size w w') : Tabs w' := Utf8Tabs_below h hb
/-- which signs are printable -/
def printB (n : Int) : Bool := if n < 32 then decide (n = 9 ∨ n = 10 ∨ n = 13) else if n < 127 then true else if n < 160 then decide (n = 133) else if n < 55296 then true else if n < 65536 then decide (57344 ≤ n ∧ n ≤ 65533 ∧ n ≠ 65279) else decide (n ≤ 1114111)
theorem bret {a b : Bool} (h : a = b) : Ending.returned (.bool a) = Ending.returned (.bool b) := by rw [h]
/-- a fault, by its two numbers -/
def faultV (l : List UInt8) (k : Nat) : Value := if k < l.length then .agg #[.int .i64 8, .int .i64 (k : Nat)] else .agg #[.int .i64 0, .int .i64 0]
set_option maxHeartbeats 400000 in
theorem fault_any (s : ByteArray) (k : Nat) (w : World) (hk : k ≤ s.size) (hm : s.size ≤ 9223372036854775807) :
    Calls Tryd.prog 52 #[.string s, .int .i64 (k : Nat)] w fun e w' => e = .returned (faultV s.data.toList k) ∧ Below w.heap.size w w' := by
  have HLN : Hid (s.data.toList.length = s.size) := rfl
  have HB : Hid (∀ o : Obj, Below w.heap.size w (w.alloc o)) := fun o => (Below.refl _ _).alloc (Nat.le_refl _) _
  by_cases h : k < s.size
  · have HF : Hid (faultV s.data.toList k = .agg #[.int .i64 8, .int .i64 (k : Nat)]) := by show _ = _; unfold faultV; rw [HLN.out, if_pos h]
    have h' : (k : Int) < (s.size : Int) := by omega
    clear h
    go_enter Tryd.func52, Tryd.ntmps52
    go_wp2
    exact bodyPost_ret (v := .agg #[.int .i64 8, .int .i64 (k : Nat)]) (by simp [results, Tryd.results52, go_sem]) rfl ⟨by rw [HF.out], HB.out _⟩
  · have HF : Hid (faultV s.data.toList k = .agg #[.int .i64 0, .int .i64 0]) := by show _ = _; unfold faultV; rw [HLN.out, if_neg h]
    have h' : decide ((k : Int) < (s.size : Int)) = false := by simp; omega
    have h2' : decide (k < s.size) = false := by simpa using h
    clear h
    go_enter Tryd.func52, Tryd.ntmps52
    go_wp2
    exact bodyPost_ret (v := .agg #[.int .i64 0, .int .i64 0]) (by simp [results, Tryd.results52, go_sem]) rfl ⟨by rw [HF.out], HB.out _⟩
theorem slice_str (s : ByteArray) (k : Nat) (hk : k ≤ s.size) (hm : s.size ≤ 9223372036854775807) : ∀ W, (Instr.sliceAt 9 (.string s) (some (.int .i64 (k : Int))) none none).run Tryd.prog W = .ok (.string (s.extract k s.size)) W := by
  intro W
  rw [run_sliceAt_string W _ _ _ _ _ Tryd.underlying9]
  have hbd : (Instr.sliceBound (.int .i64 (k : Int)) s.size .sliceB).run Tryd.prog W = .ok k W := run_sliceBound _ .i64 (k : Int) s.size .sliceB (by omega) (by omega)
  simp [Instr.slice, run_underlying Tryd.underlying9, Instr.sliceBounds, hbd]
theorem firstL_range {l : List UInt8} : -1 ≤ (firstL l).1 ∧ (firstL l).1 ≤ 1114111 := by
  rcases first_cases l with ⟨_, e⟩ | ⟨_, e⟩ | ⟨n, t, hs, _, e⟩
  · rw [e]; decide
  · rw [e]; decide
  · rw [e]; have := signB_iff.1 hs; simp only; omega
set_option maxHeartbeats 1600000 in
/-- the walk over a text, at the function value 'grommet/utf.Decode$1' -/
theorem walk_decode (s : ByteArray) (p : Int → Bool) (g : Nat) (Inv : List Int → World → Prop) (w w0 : World) (hT : Tabs w0) (hm : s.size ≤ 9223372036854775807)
    (hinv : ∀ acc W, Inv acc W → Below w0.heap.size w0 W) (hkeep : ∀ acc W W', Inv acc W → Below W.heap.size W W' → Inv acc W')
    (hcb : ∀ acc n W, Inv acc W → acc.length < s.size → acc.length ≤ (walkL p s.data.toList).1.length → -1 ≤ n → n ≤ 1114111 → Calls Tryd.prog 51 #[.int .i64 n, .pointer (some ⟨g, 0, none⟩)] W fun e w' => e = .returned (.bool (p n)) ∧ Inv (acc ++ [n]) w') (h0 : Inv [] w) :
    Calls Tryd.prog 50 #[.string s, .func (.func 51) #[] #[.pointer (some ⟨g, 0, none⟩)]] w fun e w' => e = .returned (.int .i64 ((walkL p s.data.toList).2 : Nat)) ∧ ∃ acc, Inv acc w' ∧ ((walkL p s.data.toList).2 = s.size → acc = (walkL p s.data.toList).1) := by
  have HT := Lib.hid hT
  have HM := Lib.hid hm
  have HI := Lib.hid hinv
  have HK := Lib.hid hkeep
  have HCB := Lib.hid hcb
  have H0 := Lib.hid h0
  have HLN : Hid (s.data.toList.length = s.size) := rfl
  clear hT hinv hkeep hcb h0
  go_enter Tryd.func50, Tryd.ntmps50
  go_wp2_with fail
  go_loopw [5] (fun v wr => ∃ (k : Nat) (acc : List Int), k ≤ s.size ∧ v = .int .i64 (k : Nat) ∧ Hid (Inv acc wr) ∧ acc.length ≤ k ∧ Hid (acc ++ (walkL p (s.data.toList.drop k)).1 = (walkL p s.data.toList).1) ∧ Hid (k + (walkL p (s.data.toList.drop k)).2 = (walkL p s.data.toList).2)) (fun v _ => s.size - (intOf v).toNat)
  case atStart => exact ⟨0, [], Nat.zero_le _, rfl, H0.out, Nat.le_refl _, rfl, by simp [Hid]⟩
  case round =>
    obtain ⟨k, acc, hk, rfl, hi, hl, h1, h2⟩ := hrel
    by_cases hlt : k < s.size
    · have hlt' : (k : Int) < (s.size : Int) := by omega
      have hsl := slice_str s k hk HM.out
      obtain ⟨t, ht⟩ : ∃ t, t = s.extract k s.size := ⟨_, rfl⟩
      rw [← ht] at hsl
      have htl : t.data.toList = s.data.toList.drop k := by rw [ht, Lib.extract_to_end]
      have hne : s.data.toList.drop k ≠ [] := by
        intro e
        have := congrArg List.length e
        rw [List.length_drop, HLN.out] at this
        simp at this; omega
      have NX : Hid (Calls Tryd.prog 57 #[.string t] wr (FirstPost (s.data.toList.drop k) wr)) := by
        have := first_any t wr (HT.out.below (HI.out _ _ hi.out))
        rw [htl] at this
        exact this
      have hpos := firstL_pos hne
      have hrg := firstL_range (l := s.data.toList.drop k)
      have HY : Hid (∀ b, p (firstL (s.data.toList.drop k)).1 = b → b = true → walkL p (s.data.toList.drop k) = ((firstL (s.data.toList.drop k)).1 :: (walkL p ((s.data.toList.drop k).drop (firstL (s.data.toList.drop k)).2)).1, (firstL (s.data.toList.drop k)).2 + (walkL p ((s.data.toList.drop k).drop (firstL (s.data.toList.drop k)).2)).2)) := fun b hb hbt => walkL_yes hne (hb.trans hbt)
      have HN : Hid (p (firstL (s.data.toList.drop k)).1 = false → walkL p (s.data.toList.drop k) = ([], 0)) := fun h => walkL_no h
      rw [List.length_drop, HLN.out] at hpos
      unfold FirstPost at NX
      clear hne htl ht
      obtain ⟨hp1, hp2⟩ := hpos
      obtain ⟨hr1, hr2⟩ := hrg
      obtain ⟨fr, hfr⟩ : ∃ fr, firstL (s.data.toList.drop k) = fr := ⟨_, rfl⟩
      rw [hfr] at NX HY HN hp1 hp2 hr1 hr2
      obtain ⟨r, n⟩ := fr
      simp only at NX HY HN hp1 hp2 hr1 hr2
      clear hfr
      go_wp2_with fail
      refine NX.out.mono ?_
      rintro e w1 ⟨rfl, hb1⟩
      have HC := Lib.hid (HCB.out acc r w1 (HK.out _ _ _ hi.out hb1) (by omega) (by have := congrArg List.length h1.out; rw [List.length_append] at this; omega) hr1 hr2)
      clear hb1
      go_wp2_with fail
      refine HC.out.mono ?_
      rintro e w2 ⟨rfl, hi2⟩
      have HI2 := Lib.hid hi2
      clear hi2
      obtain ⟨q, hq⟩ : ∃ q, p r = q := ⟨_, rfl⟩
      have HQ := Lib.hid hq
      rw [hq]
      clear hq
      cases q with
      | true =>
        go_wp2_with fail
        go_roundw
        case rel =>
          have hy := HY.out true HQ.out rfl
          refine ⟨k + n, acc ++ [r], by omega, by go_num, HI2.out, by simp; omega, ?_, ?_⟩
          · show _ = _; rw [← h1.out, hy, List.drop_drop]; simp
          · show _ = _; rw [← h2.out, hy, List.drop_drop]; simp only; omega
        case measure => simp [intOf]; omega
      | false =>
        go_wp2_with fail
        go_ret
        have hn := HN.out HQ.out
        have e2 : (walkL p s.data.toList).2 = k := by rw [← h2.out, hn, Nat.add_zero]
        exact ⟨by rw [e2]; rfl, _, HI2.out, fun h => by omega⟩
    · obtain rfl : k = s.size := by omega
      have hd : s.data.toList.drop s.size = [] := List.drop_eq_nil_of_le (by rw [HLN.out]; exact Nat.le_refl _)
      have E1 : Hid (acc = (walkL p s.data.toList).1) := by show _ = _; rw [← h1.out, hd]; simp [walkL_nil]
      have E2 : Hid (s.size = (walkL p s.data.toList).2) := by show _ = _; rw [← h2.out, hd]; simp [walkL_nil]
      clear h1 h2 hd
      go_wp2_with fail
      go_ret
      exact ⟨by rw [← E2.out]; rfl, _, hi.out, fun _ => E1.out⟩
end Go.Proofs.YtpgncjfmaeiaaaaDoor
