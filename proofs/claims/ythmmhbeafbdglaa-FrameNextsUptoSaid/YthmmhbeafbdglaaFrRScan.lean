import Derived.Test.YthmmhbeafbdglaaFrRCore
namespace Go.Proofs.Ythmmhbeafbdglaa
open Go.RowKit
theorem infoFrR : (Try.prog.info? 37).map (fun i => (i.zero, i.size, i.bytes)) = some (some (.agg #[.int .i64 0, .slice none 0 0]), 2, 32) := by kernel_rfl
/-- frames in a row of the call's own, of element type T -/
structure Row2 (T : TypeId) (w wr : World) (vo : Value) (fs : List FrN) : Prop where
  old : Below w.heap.size w wr
  row : wr.ownsRow w.heap.size T 2 vo fs.length (frameCells fs)
  each : ∀ f ∈ fs, OwnD wr w.heap.size f
theorem Row2.below {T : TypeId} {w wr w' : World} {vo : Value} {fs : List FrN} (h : Row2 T w wr vo fs) (hb : Below wr.heap.size wr w') : Row2 T w w' vo fs :=
  ⟨h.old.trans (hb.mono h.old.size), own_below h.row hb, fun f hf => (h.each f hf).below hb⟩
theorem Row2.step {T : TypeId} (hT : T ≠ 5) {w w2 wb w4 : World} {vo v' : Value} {fs : List FrN} {f : FrN} (h : Row2 T w w2 vo fs) (hf : OwnD w2 w.heap.size f) (B4 : Below w2.heap.size w2 wb) (grow : wb.grownBy w4 vo.ownBlock)
    (own : w4.ownsRow w.heap.size T 2 v' (fs.length + 1) (frameCells fs ++ f.cells)) : Row2 T w w4 v' (fs ++ [f]) := by
  have hbk := own_block_le h.row
  have hs := h.old.size
  refine ⟨(h.old.trans (B4.mono hs)).grown grow (by have := B4.size; omega) hbk, ?_, ?_⟩
  · have e : frameCells (fs ++ [f]) = frameCells fs ++ f.cells := by simp [frameCells]
    rw [e]; simpa using own
  · have hrow := own_elem (own_below h.row B4) (e' := 5) hT
    intro x hx
    rcases List.mem_append.1 hx with hx | hx
    · exact ⟨own_grown (own_below (h.each x hx).own B4) grow hrow, (h.each x hx).bytes⟩
    · simp only [List.mem_singleton] at hx
      subst hx
      exact ⟨own_grown (own_below hf.own B4) grow hrow, hf.bytes⟩
def RScanInv (w : World) (bs : List Nat) (seq N : Nat) (m : Nat) (s1 s6 s7 : Value) (wr : World) : Prop :=
  ∃ (at_ : Nat) (vo : Value) (fs : List FrN), s1 = .int .i64 (seq + fs.length : Nat) ∧ vo = s6 ∧ s7 = .int .i64 (at_ : Nat) ∧ Row2 37 w wr vo fs ∧ at_ ≤ bs.length ∧ 20 * fs.length ≤ at_ ∧ fs.map FrN.pair ++ scanL m (seq + fs.length) (bs.drop at_) = scanL N seq bs ∧ at_ + scanT m (seq + fs.length) (bs.drop at_) = scanT N seq bs ∧ bs.length < at_ + m ∧ seq + fs.length ≤ 9223372036854775807
def RScanPost (w : World) (N : Nat) (seq : Nat) (bs : List Nat) (e : Ending) (w' : World) : Prop :=
  ∃ (vo : Value) (fs : List FrN), e = .returned (.tuple #[vo, .int .i64 (scanT N seq bs : Nat)]) ∧ Row2 37 w w' vo fs ∧ fs.map FrN.pair = scanL N seq bs
theorem scan_over {N s : Nat} {r : List Nat} (h : 4611686018427387904 < s) : scanL N s r = [] ∧ scanT N s r = 0 := scan_not fun ⟨h1, h2⟩ => by have := nextE_zero h1; omega
set_option maxHeartbeats 1600000 in
theorem rscan_any (A : Option Addr) (cap : Nat) (bs : List Nat) (seq N : Nat) (w : World) (g : BytesIn w A cap bs) (hN : bs.length < N) (hlm : bs.length ≤ 1000000000) (h1 : 1 ≤ seq) (hmax : seq ≤ 9223372036854775807) :
    Calls Try.prog 30 #[.slice A bs.length cap, .int .i64 (seq : Nat)] w (RScanPost w N seq bs) := by
  obtain ⟨i0, hi, hz0, hz1, hz2⟩ := info_parts infoFrR
  have G := Lib.hid g
  have HLM := Lib.hid hlm
  have HS1 := Lib.hid h1
  have HMX := Lib.hid hmax
  have HN := Lib.hid hN
  clear g hlm h1 hN hmax
  go_enter Try.func30, Try.ntmps30
  go_wp2_with fail
  go_loopg [1, 6, 7] N (fun m s1 s6 s7 wr => Hid (RScanInv w bs seq N m s1 s6 s7 wr))
  case atStart =>
    exact ⟨0, .slice none 0 0, [], rfl, rfl, rfl, ⟨Below.refl _ _, ⟨by simp [frameCells], Or.inl ⟨rfl, rfl⟩⟩, by simp⟩, Nat.zero_le _, Nat.le_refl _, rfl, by simp, by have := HN.out; omega, HMX.out⟩
  case round =>
    obtain ⟨at_, vo, fs, rfl, rfl, rfl, hrow, hat, hfs, hL, hT, hm, hsx⟩ := hrel.out
    have HL := HLM.out
    have h1 := HS1.out
    clear hrel
    obtain ⟨m, rfl⟩ : ∃ m, gk = m + 1 := ⟨gk - 1, by omega⟩
    obtain ⟨q, hq⟩ : ∃ q, q = seq + fs.length := ⟨_, rfl⟩
    rw [← hq] at hL hT hsx ⊢
    have hq1 : (1 : Int) ≤ (q : Int) := by omega
    have hat' : (at_ : Int) ≤ (bs.length : Int) := by omega
    have hsl := slice_rest A cap bs at_ hat
    have hrl : (bs.drop at_).length ≤ 140737488355328 := by simp; omega
    have NX := Lib.hid (rnext_uni (subA A at_ cap) (cap - at_) (bs.drop at_) wr ((G.out.below hrow.old).drop at_) hrl)
    have GB := Lib.hid ((G.out.bytes.drop at_).drop 20)
    clear hrl
    obtain ⟨r, hr⟩ : ∃ r, r = bs.drop at_ := ⟨_, rfl⟩
    have hrlen : r.length = bs.length - at_ := by rw [hr]; simp
    rw [← hr] at hsl NX hL hT GB
    have HQ := Lib.hid hq
    have HR := Lib.hid hr
    have RL := Lib.hid hrlen
    have HROW := Lib.hid hrow
    have HLL := Lib.hid hL
    have HTT := Lib.hid hT
    clear hq hr hrlen hrow hL hT
    go_wp2_with fail
    refine NX.out.mono ?_
    rintro e w2 ⟨sq, A', L, k, n, rfl, hb, hz⟩
    have ROW2 := Lib.hid (HROW.out.below hb)
    have HZ := Lib.hid hz
    have HSZ := Lib.hid (hb.size)
    clear hb hz
    by_cases h0 : nextE r = 0
    · obtain ⟨a1, a2, a3, a4⟩ := HZ.out h0
      have he : ((nextE r : Int) != 0) = false := by rw [h0]; rfl
      by_cases hs : seqOf r = q
      · have hqs : ((sq : Int) != (q : Int)) = false := by rw [a1, hs]; simp
        have hcL : (1 : Int) ≤ 1 := by decide
        have HA := Lib.hid (And.intro a1 (And.intro a2 (And.intro a3 a4)))
        have H0 := Lib.hid h0
        have HS := Lib.hid hs
        clear a1 a2 a3 a4 h0 hs hcL
        generalize nextE r = er at he
        go_wp2_with (at_builtin; refine wpList_append_own _ rfl _ _ 59 rfl w.heap.size 37 i0 (.agg #[.int .i64 0, .slice none 0 0]) 2 32 Try.underlying59 hi hz0 hz1 hz2 rfl (by decide) vo fs.length (frameCells fs) rfl (own_below (own_below ROW2.out.row ((Below.refl _ _).alloc (Nat.le_refl _) _)) ((Below.refl _ _).alloc (Nat.le_refl _) _)) ⟨w2.heap.size + 1, 0, none⟩ 1 1 [.int .i64 (sq : Nat), .slice A' L k] rfl rfl ?c1 ?c2 ?c3 ?c4 ?c5 ?_)
        case c1 =>
          intro j u hu
          rcases j with _ | _ | j
          · simp at hu; subst hu; simp [Addr.add]
          · simp at hu; subst hu; simp [Addr.add]
          · simp at hu
        case c2 => simp [Value.oneCell']
        case c3 => unfold maxLen; omega
        case c4 => omega
        case c5 => have := ROW2.out.old.size; simp; omega
        intro v' w4 hown hgrow _
        have HD : Hid (OwnD w2 w.heap.size ⟨q, A', k, dataOf r⟩) := by
          obtain ⟨a1, a2, a3, a4⟩ := HA.out
          rw [a3] at a4
          exact ⟨own_lower a4 HROW.out.old.size, GB.out.take _⟩
        have HR4 : Hid (Row2 37 w w4 v' (fs ++ [⟨q, A', k, dataOf r⟩])) := by
          obtain ⟨a1, a2, a3, a4⟩ := HA.out
          refine Row2.step (by decide) ROW2.out HD.out (((Below.refl _ _).alloc (Nat.le_refl _) _).alloc (by simp) _) hgrow ?_
          rw [a1, HS.out, a3] at hown
          exact hown
        have HN2 : Hid ((at_ : Int) + (n : Int) = ((at_ + (20 + lenOf r) : Nat) : Int)) := by
          show _ = _
          obtain ⟨a1, a2, a3, a4⟩ := HA.out
          rw [a2]; omega
        have hn2 : (n : Int) ≤ 1000000 := by
          obtain ⟨a1, a2, a3, a4⟩ := HA.out
          have := nextE_zero H0.out
          omega
        clear hown hgrow
        have HLN : Hid (fs.map FrN.pair ++ scanL (m + 1) q r = scanL N seq bs ∧ (at_ : Nat) + scanT (m + 1) q r = scanT N seq bs) := ⟨HLL.out, HTT.out⟩
        have hstep : scanL (m + 1) q r = (q, dataOf r) :: scanL m (q + 1) (r.drop (20 + lenOf r)) ∧ scanT (m + 1) q r = 20 + lenOf r + scanT m (q + 1) (r.drop (20 + lenOf r)) := by
          simp only [scanL, scanT, if_pos (And.intro H0.out HS.out), and_self]
        have HST := Lib.hid hstep
        clear hstep
        by_cases hx : (q : Int) = 4611686018427387904
        · have hx' : ((q : Int) == 4611686018427387904) = true := beq_iff_eq.2 hx
          have HX := Lib.hid hx
          clear hx
          go_wp2_with fail
          obtain ⟨o1, o2⟩ := scan_over (N := m) (s := q + 1) (r := r.drop (20 + lenOf r)) (by have := HX.out; omega)
          refine bodyPost_ret (v := .tuple #[v', .int .i64 (scanT N seq bs : Nat)]) ?_ rfl ⟨v', fs ++ [⟨q, A', k, dataOf r⟩], rfl, HR4.out, ?_⟩
          · have e : (at_ : Int) + (n : Int) = ((scanT N seq bs : Nat) : Int) := by
              rw [HN2.out, ← HLN.out.2, HST.out.2, o2, Nat.add_zero]
            simp [results, Try.results30, go_sem, e]
          · rw [← HLN.out.1, HST.out.1, o1]; simp [FrN.pair]
        · have hx' : ((q : Int) == 4611686018427387904) = false := beq_eq_false_iff_ne.2 hx
          have hxl : (q : Int) < 4611686018427387904 := by have := nextE_zero H0.out; have := HS.out; omega
          clear hx
          go_wp2_with fail
          go_roundg m
          case measure => omega
          case rel =>
            have z := nextE_zero H0.out
            have rl := RL.out
            refine ⟨at_ + (20 + lenOf r), v', fs ++ [⟨q, A', k, dataOf r⟩], by rw [HQ.out]; simp; omega, rfl, by rw [HN2.out], HR4.out, by omega, by simp; omega, ?_, ?_, by omega, by rw [HQ.out] at hxl; simp; omega⟩
            · rw [← HLN.out.1, HST.out.1, HR.out, HQ.out, List.drop_drop]; simp [FrN.pair, Nat.add_assoc]
            · rw [← HLN.out.2, HST.out.2, HR.out, HQ.out, List.drop_drop]; simp [Nat.add_assoc]
      · have hqs : ((sq : Int) != (q : Int)) = true := by rw [a1]; simp; omega
        have HN0 := Lib.hid (scan_not (N := m + 1) (fun h => hs h.2 : ¬ (nextE r = 0 ∧ seqOf r = q)))
        clear a1 a2 a3 a4 h0 hs HZ
        generalize nextE r = er at he ⊢
        go_wp2_with fail
        have hat2 : at_ = scanT N seq bs := by rw [← HTT.out, HN0.out.2]; rfl
        exact bodyPost_ret (v := .tuple #[vo, .int .i64 (at_ : Nat)]) (by simp [results, Try.results30, go_sem]) rfl ⟨vo, fs, by rw [hat2], ROW2.out.below ((Below.refl _ _).alloc (Nat.le_refl _) _), by rw [← HLL.out, HN0.out.1, List.append_nil]⟩
    · have he : ((nextE r : Int) != 0) = true := by simp; omega
      have HN0 := Lib.hid (scan_not (N := m + 1) (fun h => h0 h.1 : ¬ (nextE r = 0 ∧ seqOf r = q)))
      clear h0 HZ
      generalize nextE r = er at he ⊢
      go_wp2_with fail
      have hat2 : at_ = scanT N seq bs := by rw [← HTT.out, HN0.out.2]; rfl
      exact bodyPost_ret (v := .tuple #[vo, .int .i64 (at_ : Nat)]) (by simp [results, Try.results30, go_sem]) rfl ⟨vo, fs, by rw [hat2], ROW2.out.below ((Below.refl _ _).alloc (Nat.le_refl _) _), by rw [← HLL.out, HN0.out.1, List.append_nil]⟩
theorem rscan_low (A : Option Addr) (len cap : Nat) (seq : Int) (w : World) (h : seq < 1) :
    Calls Try.prog 30 #[.slice A len cap, .int .i64 seq] w fun e w' => e = .returned (.tuple #[.slice none 0 0, .int .i64 0]) ∧ w = w' := by
  have hd : decide ((1 : Int) ≤ seq) = false := by simp; omega
  go_enter Try.func30, Try.ntmps30
  go_wp2_with fail
  go_loopg [1, 6, 7] 1 (fun m s1 s6 s7 wr => m = 1 ∧ s1 = .int .i64 seq ∧ s6 = .slice none 0 0 ∧ s7 = .int .i64 0 ∧ w = wr)
  case atStart => exact ⟨rfl, rfl, rfl, rfl, rfl⟩
  case round =>
    obtain ⟨rfl, rfl, rfl, rfl, rfl⟩ := hrel
    go_wp2_with fail
    exact bodyPost_ret (v := .tuple #[.slice none 0 0, .int .i64 0]) (by simp [results, Try.results30, go_sem]) rfl ⟨rfl, rfl⟩
end Go.Proofs.Ythmmhbeafbdglaa
