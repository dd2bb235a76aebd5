import Derived.Test.YthmmhbeafbdglaaFrMem
import Derived.ArgAppend
namespace Go.Proofs.Ythmmhbeafbdglaa
open Go.RowKit
/-- a row of the call's own, of bytes -/
structure OwnB (w0 w : World) (base : Nat) (A : Option Addr) (cap : Nat) (bs : List Nat) : Prop where
  own : w.ownsRow base 5 1 (.slice A bs.length cap) bs.length (cellsOf bs)
  into : BytesIn w A cap bs
  below : Below base w0 w
theorem OwnB.later {w0 w w' : World} {base : Nat} {A : Option Addr} {cap : Nat} {bs : List Nat} (h : OwnB w0 w base A cap bs) (hb : Below w.heap.size w w') (hs : base ≤ w.heap.size) : OwnB w0 w' base A cap bs := ⟨own_below h.own hb, h.into.below hb, h.below.trans (hb.mono hs)⟩
theorem OwnB.of {w0 w : World} {base : Nat} {v : Value} {bs : List Nat} (h : w.ownsRow base 5 1 v bs.length (cellsOf bs)) (hb : AllBytes bs) (hl : Below base w0 w) : ∃ A cap, v = .slice A bs.length cap ∧ OwnB w0 w base A cap bs := by
  obtain ⟨A, cap, rfl, g⟩ := own_in h hb
  exact ⟨A, cap, rfl, h, g, hl⟩
theorem number_own (n v base : Nat) (w0 W : World) (hn : 1 ≤ n) (hn8 : n ≤ 8) (hv : v < 18446744073709551616) (L : List Nat) (hL : numB n v = L) (hb : base ≤ W.heap.size) (hW : Below base w0 W) :
    Calls Try.prog 41 #[.int .u64 v, .int .i64 n] W fun e w' => ∃ A cap, e = .returned (.slice A L.length cap) ∧ OwnB w0 w' base A cap L ∧ Below W.heap.size W w' := by
  subst hL
  refine (number_any n v W hn hn8 hv).mono ?_
  rintro e w' ⟨rfl, hbk, hsz, hbl⟩
  have ho := own_of_block hbk hb (by rw [numB_length]; unfold maxLen; omega)
  refine ⟨_, n, by rw [numB_length], ⟨?_, ?_, hW.trans (hbl.mono hb)⟩, hbl⟩
  · have e1 : (numB n v).length = n := numB_length n v
    rw [e1] at ho ⊢
    exact ho
  · refine ⟨numB_bytes n v, ?_, by rw [numB_length]; exact Nat.le_refl _, by rw [numB_length]; omega, fun h => by cases h⟩
    exact Or.inr ⟨W.heap.size, 0, rfl, block_lt hbk, fun i hi => by rw [Nat.zero_add, block_cell hbk]; exact cellsOf_at _ hi⟩

theorem rsum_two (A : Option Addr) (cap : Nat) (bs : List Nat) (A' : Option Addr) (cap' : Nat) (bs' : List Nat) (w : World) (g : BytesIn w A cap bs) (g' : BytesIn w A' cap' bs') :
    Calls Try.prog 16 #[.slice (some ⟨w.heap.size, 0, none⟩) 2 2] (w.alloc (.cells #[.slice A bs.length cap, .slice A' bs'.length cap'] 28)) fun e w' => e = .returned (.int .u32 (sumL [bs, bs'] : Nat)) ∧ w.alloc (.cells #[.slice A bs.length cap, .slice A' bs'.length cap'] 28) = w' := by
  have hb : Below w.heap.size w (w.alloc (.cells #[.slice A bs.length cap, .slice A' bs'.length cap'] 28)) := (Below.refl _ _).alloc (Nat.le_refl _) _
  exact rsum_any _ _ [⟨A, cap, bs⟩, ⟨A', cap', bs'⟩] _ (by simp) (PartsAt.of_block (heap_alloc_new _ _) rfl) (by intro p hp; simp at hp; rcases hp with rfl | rfl; exact (g.below hb).part; exact (g'.below hb).part)
set_option maxHeartbeats 1600000 in
theorem rput_ok (seq : Nat) (A : Option Addr) (cap : Nat) (d : List Nat) (w : World) (h1 : 1 ≤ seq) (h2 : seq ≤ 4611686018427387904) (g : BytesIn w A cap d) (hl : d.length ≤ 262144) :
    Calls Try.prog 24 #[.agg #[.int .i64 seq, .slice A d.length cap]] w fun e w' => ∃ v, e = .returned (.tuple #[v, .int .i64 0]) ∧ w'.ownsRow w.heap.size 5 1 v (frameB seq d).length (cellsOf (frameB seq d)) ∧ Below w.heap.size w w' := by
  have hwl : IntKind.u64.wrap (d.length : Int) = (d.length : Int) := IntWalk.u64_in _ ⟨by omega, by omega⟩
  have hws : IntKind.u64.wrap (seq : Int) = (seq : Int) := IntWalk.u64_in _ ⟨by omega, by omega⟩
  have hl0 := sumL_lt [headB seq d, d]
  obtain ⟨S, HS⟩ : ∃ S, Hid (sumL [headB seq d, d] = S) := ⟨_, rfl⟩
  rw [HS.out] at hl0
  have hwS : IntKind.u64.wrap (S : Int) = (S : Int) := IntWalk.u64_in _ ⟨by omega, by omega⟩
  obtain ⟨L4, HL4⟩ : ∃ L, Hid (numB 4 d.length = L) := ⟨_, rfl⟩
  obtain ⟨L8, HL8⟩ : ∃ L, Hid (numB 8 seq = L) := ⟨_, rfl⟩
  have H4 : Hid (L4.length = 4) := by show L4.length = 4; rw [← HL4.out]; exact numB_length 4 _
  have H8 : Hid (L8.length = 8) := by show L8.length = 8; rw [← HL8.out]; exact numB_length 8 _
  go_enter Try.func24, Try.ntmps24
  go_wp2_with fail
  have HB0 : Hid (Below w.heap.size w (w.alloc (Obj.cells #[.int .i64 seq, .slice A d.length cap] 37))) := (Below.refl _ _).alloc (Nat.le_refl _) _
  have HBX := Lib.hid (heap_alloc_new w (Obj.cells #[.int .i64 seq, .slice A d.length cap] 37))
  have HSZ : Hid ((w.alloc (Obj.cells #[.int .i64 seq, .slice A d.length cap] 37)).heap.size = w.heap.size + 1) := by
    show _ = _
    simp
  generalize w.alloc (Obj.cells #[.int .i64 seq, .slice A d.length cap] 37) = w0 at HB0 HBX HSZ ⊢
  have hc0 : w0.cell? ⟨w.heap.size, 0, none⟩ = some (.int .i64 seq) := block_cell HBX.out 0
  have hc1 : w0.cell? ⟨w.heap.size, 1, none⟩ = some (.slice A d.length cap) := block_cell HBX.out 1
  have CC : Hid (∀ W, Below w0.heap.size w0 W → W.cell? ⟨w.heap.size, 0, none⟩ = some (.int .i64 seq) ∧ W.cell? ⟨w.heap.size, 1, none⟩ = some (.slice A d.length cap)) := fun W hW =>
    ⟨(hW.cell (p := ⟨w.heap.size, 0, none⟩) (by rw [HSZ.out]; simp)).trans hc0, (hW.cell (p := ⟨w.heap.size, 1, none⟩) (by rw [HSZ.out]; simp)).trans hc1⟩
  have N4 : Hid (∀ W, Below w0.heap.size w0 W → Calls Try.prog 41 #[.int .u64 (d.length : Nat), .int .i64 4] W fun e w' => ∃ A cap, e = .returned (.slice A L4.length cap) ∧ OwnB w0 w' w0.heap.size A cap L4 ∧ Below W.heap.size W w') :=
    fun W hW => number_own 4 d.length _ w0 W (by omega) (by omega) (by omega) L4 HL4.out hW.size hW
  have N8 : Hid (∀ W, Below w0.heap.size w0 W → Calls Try.prog 41 #[.int .u64 (seq : Nat), .int .i64 8] W fun e w' => ∃ A cap, e = .returned (.slice A L8.length cap) ∧ OwnB w0 w' w0.heap.size A cap L8 ∧ Below W.heap.size W w') :=
    fun W hW => number_own 8 seq _ w0 W (by omega) (by omega) (by omega) L8 HL8.out hW.size hW
  have hdr : Below w0.heap.size w0 w0.drew := (Below.refl _ _).drew
  have HDR := Lib.hid hdr
  clear hdr
  go_region_held3 (fun w' => w'.cell? ⟨w.heap.size, 0, none⟩ = some (.int .i64 seq) ∧ w'.cell? ⟨w.heap.size, 1, none⟩ = some (.slice A d.length cap))
    (first
      | go_keep
      | exact CC.out _ o4.below
      | exact CC.out _ o8.below
      | exact CC.out _ B9.out)
    (first
      | (go_at_call 41; with_reducible refine (N4.out _ HDR.out).mono ?_; rintro e w4 ⟨A4, C4, rfl, o4, b4⟩)
      | (go_at_call 41; with_reducible refine (N8.out _ HDR.out).mono ?_; rintro e w8 ⟨A8, C8, rfl, o8, b8⟩)
      | (go_at_call 41; with_reducible refine (N4.out _ o8.below).mono ?_; rintro e w4 ⟨A4, C4, rfl, o4, b4⟩)
      | (go_at_call 41; with_reducible refine (N8.out _ o4.below).mono ?_; rintro e w8 ⟨A8, C8, rfl, o8, b8⟩)
      | (refine step_append_bytes (by rfl) _ _ (by rfl) w0.heap.size (.slice A4 L4.length C4) L4 (by rfl) (own_below o4.own b8) A8 C8 L8 (by rfl) o8.into (by have := H4.out; have := H8.out; omega) o8.below.size ?_; intro v9 w9 o9 b9; have B9 := Lib.hid (o8.below.trans b9); clear b9 b8 b4 o8 o4)
      | (refine step_append_bytes (by rfl) _ _ (by rfl) w0.heap.size (.slice A4 L4.length C4) L4 (by rfl) o4.own A8 C8 L8 (by rfl) (o8.into.below b4) (by have := H4.out; have := H8.out; omega) o4.below.size ?_; intro v9 w9 o9 b9; have B9 := Lib.hid (o4.below.trans b9); clear b9 b8 b4 o8 o4)
      | fail)
  all_goals
    obtain ⟨HH, hHH⟩ : ∃ L : List Nat, L4 ++ L8 = L := ⟨_, rfl⟩
    rw [hHH] at o9
    have HHH : Hid (headB seq d = HH) := by show headB seq d = HH; rw [← hHH, ← HL4.out, ← HL8.out]; rfl
    have hln : HH.length = 12 := by rw [← HHH.out]; exact headB_length seq d
    have hbb : AllBytes HH := by rw [← HHH.out]; exact headB_bytes seq d
    clear hHH
    obtain ⟨A9, C9, rfl, O9⟩ := OwnB.of o9 hbb B9.out
    have hA9 : ∃ ad, A9 = some ad := by
      rcases O9.into.at_ with h | ⟨b, off, h, _⟩
      · rw [h] at hln; simp at hln
      · exact ⟨_, h⟩
    obtain ⟨ad9, rfl⟩ := hA9
    have G9 := Lib.hid (g.below (HB0.out.trans (B9.out.mono (by rw [HSZ.out]; omega))))
    have RS := Lib.hid (rsum_two (some ad9) C9 HH A cap d w9 O9.into G9.out)
    rw [show sumL [HH, d] = S from by rw [← HHH.out]; exact HS.out] at RS
    have OO := Lib.hid O9
    have HLN := Lib.hid hln
    clear o9 hbb O9 hln CC N4 N8 hwl hws
    go_wp2_with fail
    refine RS.out.mono ?_
    rintro e w10 ⟨rfl, rfl⟩
    have kc2 := fun (O : Obj) (C : Array Value) (n c : Nat) => Joins.run_convert_bytes_const_at (P := Try.prog) (w9.alloc O) 28 5 C n c (w9.heap.size + 1) (by simp) Try.underlying28 Try.underlying5
    obtain ⟨i0, hi, hz0, hz1, hz2⟩ := info_parts infoU8
    go_wp2_with (at_builtin; refine wpList_append_grows _ rfl _ _ 28 rfl 5 i0 (.int .u8 0) 1 1 Try.underlying28 hi hz0 hz1 hz2 rfl (by decide) (some ⟨w9.heap.size + 1, 0, none⟩) 4 4 (cellsOf yrec) rfl (fun h => by cases h) rfl ?_ ad9 HH.length C9 (cellsOf HH) rfl ?_ ?_ (cellsOf_one HH) ?_ ?_ ?_ ?_)
    · exact news_any (BytesAt.of_block (heap_new1 w9 _ _) rfl)
    · rw [cellsOf_length]; omega
    · exact news_any (OO.out.into.below (((Below.refl _ _).alloc (Nat.le_refl _) _).alloc (by simp) _)).at_ ad9 rfl
    · have := HLN.out; omega
    · have := HLN.out; unfold maxLen; omega
    · have := HLN.out; omega
    clear kc2
    intro v11 w11 o11 g11
    have hb11 : Below w9.heap.size w9 w11 := (((Below.refl w9.heap.size w9).alloc (Nat.le_refl _) _).alloc (by simp) _).grown g11 (by first | omega | (simp; omega)) (fun k hk => by cases hk)
    have hs9 : w0.heap.size ≤ w9.heap.size := B9.out.size
    have o11' : w11.ownsRow w0.heap.size 5 1 v11 (yrec ++ HH).length (cellsOf (yrec ++ HH)) := by
      have h := own_lower (B := w0.heap.size) o11 (by first | omega | (simp; omega))
      rw [cellsOf_append] at h
      rw [List.length_append]
      exact h
    have B11 := Lib.hid (B9.out.trans (hb11.mono hs9))
    have hyb : AllBytes (yrec ++ HH) := by
      intro c hc
      rcases List.mem_append.1 hc with h | h
      · exact yrec_bytes c h
      · exact OO.out.into.bytes c h
    obtain ⟨L16, hL16⟩ : ∃ L : List Nat, yrec ++ HH = L := ⟨_, rfl⟩
    rw [hL16] at o11' hyb
    obtain ⟨A11, C11, rfl, O11⟩ := OwnB.of o11' hyb B11.out
    have H16 : Hid (L16.length = 16) := by show L16.length = 16; rw [← hL16, List.length_append, HLN.out]; rfl
    have HL16 := Lib.hid hL16
    have OX := Lib.hid O11
    obtain ⟨LS, hLS⟩ : ∃ L, numB 4 S = L := ⟨_, rfl⟩
    have HLS := Lib.hid hLS
    have HS4 : Hid (LS.length = 4) := by show LS.length = 4; rw [← hLS]; exact numB_length 4 _
    have NS : Hid (∀ W, Below w0.heap.size w0 W → Calls Try.prog 41 #[.int .u64 (S : Nat), .int .i64 4] W fun e w' => ∃ A cap, e = .returned (.slice A LS.length cap) ∧ OwnB w0 w' w0.heap.size A cap LS ∧ Below W.heap.size W w') :=
      fun W hW => number_own 4 S _ w0 W (by omega) (by omega) (by omega) LS HLS.out hW.size hW
    have hc11 : w11.cell? ⟨w.heap.size, 1, none⟩ = some (.slice A d.length cap) := (B11.out.cell (p := ⟨w.heap.size, 1, none⟩) (by rw [HSZ.out]; simp)).trans hc1
    have C11' : Hid (∀ W, Below w0.heap.size w0 W → W.cell? ⟨w.heap.size, 1, none⟩ = some (.slice A d.length cap)) := fun W hW => (hW.cell (p := ⟨w.heap.size, 1, none⟩) (by rw [HSZ.out]; simp)).trans hc1
    have GG : Hid (∀ W, Below w0.heap.size w0 W → BytesIn W A cap d) := fun W hW => g.below (HB0.out.trans (hW.mono (by rw [HSZ.out]; omega)))
    clear o11 g11 hb11 hs9 o11' hyb hL16 O11 hLS hc0 RS G9 OO
    go_wp2_with fail
    go_region_held3 (fun w' => w'.cell? ⟨w.heap.size, 1, none⟩ = some (.slice A d.length cap))
      (first
        | go_keep
        | exact C11'.out _ B14.out
        | exact C11'.out _ B13.out
        | exact C11'.out _ o12.below)
      (first
        | (go_at_call 41; (with_reducible refine (NS.out _ B11.out.drew).mono ?_); rintro e w12 ⟨A12, C12, rfl, o12, b12⟩; have B12 : Hid (Below w11.heap.size w11 w12) := ⟨b12.os, b12.tape, b12.output, b12.size, b12.block⟩; clear b12)
        | (refine step_append_bytes (by rfl) _ _ (by rfl) w0.heap.size (.slice A11 L16.length C11) L16 (by rfl) (own_below OX.out.own B12.out) A12 C12 LS (by rfl) o12.into (by have := H16.out; have := HS4.out; omega) o12.below.size ?_; intro v13 w13 o13 b13; have B13 := Lib.hid (o12.below.trans b13); clear b13)
        | (refine step_append_bytes (by rfl) _ _ (by rfl) w0.heap.size v13 (L16 ++ LS) (by rfl) o13 A cap d (by rfl) (GG.out _ B13.out) (by have := H16.out; have := HS4.out; rw [List.length_append]; omega) B13.out.size ?_; intro v14 w14 o14 b14; have B14 := Lib.hid (B13.out.trans b14); clear b14)
        | fail)
    go_wp2_with fail
    have hfr : L16 ++ LS ++ d = frameB seq d := by
      rw [← HL16.out, ← HLS.out, ← HHH.out, ← HS.out]
      rfl
    rw [hfr] at o14
    go_ret2
    exact ⟨_, rfl, own_lower o14 (by rw [HSZ.out]; omega), HB0.out.trans (B14.out.mono (by rw [HSZ.out]; omega))⟩
end Go.Proofs.Ythmmhbeafbdglaa
