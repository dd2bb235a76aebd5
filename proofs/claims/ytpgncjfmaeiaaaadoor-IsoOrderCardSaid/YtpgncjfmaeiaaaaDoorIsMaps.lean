/- The entries of two Maps are paired: the walk, for whatever is known of 'to'. Conditions: right graphs, texts and rows no longer than 10^6. -/
import Derived.Test.YtpgncjfmaeiaaaaDoorIsTwo
set_option linter.unusedVariables false
namespace Go.Proofs.YtpgncjfmaeiaaaaDoor.Is
open Go.RowKit
/-- what lies below a pairing: the two graphs -/
structure Two (w0 : World) (h : Sh) (a b : Gv) : Prop where
  ga : GrIn w0 a
  gb : GrIn w0 b
  sa : ∀ m ∈ a.ns, m.txt.size ≤ 1000000 ∧ m.kids.length ≤ 1000000
  sb : ∀ m ∈ b.ns, m.txt.size ≤ 1000000 ∧ m.kids.length ≤ 1000000
  ra : rightN a = true
  rb : rightN b = true
  hS : ∀ k, h.S k → w0.heap.size ≤ k
abbrev chs (a b : Gv) (ord : Bool) : Int × Int → Bool × PrL := chN a b ord
def ToPost (h : Sh) (a b : Gv) (ord : Bool) (r : Bool × PrL) (W : World) (e : Ending) (w' : World) : Prop := e = .returned (.bool r.1) ∧ PIn w' h a b ord r.2 ∧ Keep h.S W w'
def ToSpec (w0 : World) (h : Sh) (a b : Gv) (ord : Bool) (N : Nat) : Prop :=
  ∀ W met x, Below w0.heap.size w0 W → PIn W h a b ord met → OkM a.ns.length b.ns.length met → InU a.ns.length b.ns.length x → mu a.ns.length b.ns.length met < N →
    Calls Tryd.prog 30 #[.pointer (some ⟨h.p, 0, none⟩), pairV x] W (ToPost h a b ord (toF (chs a b ord) N met x) W)
theorem PIn.notS {w : World} {h : Sh} {a b : Gv} {ord : Bool} {met : PrL} (P : PIn w h a b ord met) {k : Nat} (hk : w.heap.size ≤ k) : ¬ h.S k := by
  obtain ⟨fm, fl, fr, h1, h2, h3, h4⟩ := P.maps
  have e0 := blt P.box
  have e1 := h1.lt
  have e2 := h2.lt
  have e3 := h3.lt
  rintro (e | e | e | e) <;> omega
theorem MF.keep {S : Nat → Prop} {w w' : World} {kt : TypeId} {b n : Nat} {f : Value → Option Value} (h : MF w kt b n f) (hk : Keep S w w') (hb : ¬ S b) : MF w' kt b n f := by
  obtain ⟨D, ⟨es, clock, h1, r⟩, h2⟩ := h
  exact ⟨D, ⟨es, clock, (hk.block b (Array.getElem?_eq_some_iff.1 h1).1 hb).trans h1, r⟩, h2⟩
theorem lookE {w : World} {bm n : Nat} {f : Value → Option Value} (M : MF w 60 bm n f) {k : Int} {s : ByteArray} (hk : wf64 k) (hs : s.size ≤ 1000000) :
    (Instr.lookup 57 (.map (some bm)) (.agg #[.int .i64 k, .string s]) true).run Tryd.prog w = .ok (.tuple #[(f (gkey (k, s))).getD (.agg #[.int .i64 0, .int .i64 0]), .bool (f (gkey (k, s))).isSome]) w := by
  obtain ⟨kl, hkey⟩ := keyOf_ikey (s := s) hk (by unfold maxLen; omega)
  exact M.look_ok keyed_ikey Tryd.underlying57 (zpair _) (RX_pair 0 0) hkey
set_option maxRecDepth 100000 in
set_option maxHeartbeats 6400000 in
theorem maps_any (w0 : World) (h : Sh) (a b : Gv) (ord : Bool) (N : Nat) (T : Two w0 h a b) (IH : ToSpec w0 h a b ord N) (x y : Nd) (hx : x ∈ a.ns) (hy : y ∈ b.ns) (met : PrL) (W : World) (hW : Below w0.heap.size w0 W) (P : PIn W h a b ord met) (hok : OkM a.ns.length b.ns.length met) (hmu : mu a.ns.length b.ns.length met < N) :
    Calls Tryd.prog 42 #[.pointer (some ⟨h.p, 0, none⟩), x.val, y.val] W (ToPost h a b ord ((goF (toF (chs a b ord) N) (mapsTo a.ns b.ns x.kids y.kids (x.kids.length / 2)).2 met).1 && (mapsTo a.ns b.ns x.kids y.kids (x.kids.length / 2)).1, (goF (toF (chs a b ord) N) (mapsTo a.ns b.ns x.kids y.kids (x.kids.length / 2)).2 met).2) W) := by
  have XM := Lib.hid hx
  have YM := Lib.hid hy
  have HT := Lib.hid T
  have HI := Lib.hid IH
  have HW0 := Lib.hid hW
  have HOK := Lib.hid hok
  have HMU := Lib.hid hmu
  have KX : Hid (KidsAt w0 x) := T.ga.kids x hx
  have KY : Hid (KidsAt w0 y) := T.gb.kids y hy
  have EN : Hid (∀ V, Below w0.heap.size w0 V → Calls Tryd.prog 28 #[.agg #[.slice b.A b.ns.length b.c, .int .i64 b.root], y.val] V (EntPost b.ns y.kids V)) := fun V hV => entries_any b y V (T.gb.below hV) (KY.out.below hV) (T.sb y hy).2 (fun m hm => (T.sb m hm).1) (right_kids T.rb hy)
  have hlx : x.kids.length ≤ 1000000 := (T.sa x hx).2
  have RX0 := Lib.hid (right_kids T.ra hx)
  -- the two boxes
  have PB : Hid (PIn ((W.alloc (.cells #[.int .i64 x.kind, .string x.txt, .slice x.ka x.kids.length x.kc] 38)).alloc (.cells #[.int .i64 y.kind, .string y.txt, .slice y.ka y.kids.length y.kc] 38)) h a b ord met) := (P.below (ext_world W _)).below (ext_world _ _)
  have hs1 : (W.alloc (.cells #[.int .i64 x.kind, .string x.txt, .slice x.ka x.kids.length x.kc] 38)).heap.size = W.heap.size + 1 := by simp
  have x2 : ((W.alloc (.cells #[.int .i64 x.kind, .string x.txt, .slice x.ka x.kids.length x.kc] 38)).alloc (.cells #[.int .i64 y.kind, .string y.txt, .slice y.ka y.kids.length y.kc] 38)).cell? ⟨W.heap.size, 2, none⟩ = some (.slice x.ka x.kids.length x.kc) := (Below.cell (ext_world _ _) (p := ⟨W.heap.size, 2, none⟩) (by simp)).trans (bcell (heap_new W _ _) 2)
  have y0 : ((W.alloc (.cells #[.int .i64 x.kind, .string x.txt, .slice x.ka x.kids.length x.kc] 38)).alloc (.cells #[.int .i64 y.kind, .string y.txt, .slice y.ka y.kids.length y.kc] 38)).cell? ⟨W.heap.size + 1, 0, none⟩ = some (.int .i64 y.kind) := by have h9 := bcell (heap_new (W.alloc (.cells #[.int .i64 x.kind, .string x.txt, .slice x.ka x.kids.length x.kc] 38)) #[.int .i64 y.kind, .string y.txt, .slice y.ka y.kids.length y.kc] 38) 0; rw [hs1] at h9; exact h9
  have y1 : ((W.alloc (.cells #[.int .i64 x.kind, .string x.txt, .slice x.ka x.kids.length x.kc] 38)).alloc (.cells #[.int .i64 y.kind, .string y.txt, .slice y.ka y.kids.length y.kc] 38)).cell? ⟨W.heap.size + 1, 1, none⟩ = some (.string y.txt) := by have h9 := bcell (heap_new (W.alloc (.cells #[.int .i64 x.kind, .string x.txt, .slice x.ka x.kids.length x.kc] 38)) #[.int .i64 y.kind, .string y.txt, .slice y.ka y.kids.length y.kc] 38) 1; rw [hs1] at h9; exact h9
  have y2 : ((W.alloc (.cells #[.int .i64 x.kind, .string x.txt, .slice x.ka x.kids.length x.kc] 38)).alloc (.cells #[.int .i64 y.kind, .string y.txt, .slice y.ka y.kids.length y.kc] 38)).cell? ⟨W.heap.size + 1, 2, none⟩ = some (.slice y.ka y.kids.length y.kc) := by have h9 := bcell (heap_new (W.alloc (.cells #[.int .i64 x.kind, .string x.txt, .slice x.ka x.kids.length x.kc] 38)) #[.int .i64 y.kind, .string y.txt, .slice y.ka y.kids.length y.kc] 38) 2; rw [hs1] at h9; exact h9
  have HKP : Hid (Keep h.S W ((W.alloc (.cells #[.int .i64 x.kind, .string x.txt, .slice x.ka x.kids.length x.kc] 38)).alloc (.cells #[.int .i64 y.kind, .string y.txt, .slice y.ka y.kids.length y.kc] 38))) := Keep.of_below ((ext_world W _).alloc (by simp) _)
  have HBV : Hid (Below w0.heap.size w0 ((W.alloc (.cells #[.int .i64 x.kind, .string x.txt, .slice x.ka x.kids.length x.kc] 38)).alloc (.cells #[.int .i64 y.kind, .string y.txt, .slice y.ka y.kids.length y.kc] 38))) := hW.trans (((ext_world W _).alloc (by simp) _).mono hW.size)
  have NSX : Hid (¬ h.S W.heap.size) := P.notS (Nat.le_refl _)
  have p2 := bcell PB.out.box 2
  have p3 := bcell PB.out.box 3
  unfold pCells at p2 p3
  unfold Nd.val at EN ⊢
  clear hs1 P hx hy T IH hW hok hmu
  go_enter Tryd.func42, Tryd.ntmps42
  go_wp2_with fail
  generalize ((W.alloc (.cells #[.int .i64 x.kind, .string x.txt, .slice x.ka x.kids.length x.kc] 38)).alloc (.cells #[.int .i64 y.kind, .string y.txt, .slice y.ka y.kids.length y.kc] 38)) = V at PB x2 y0 y1 y2 HKP HBV p2 p3 ⊢
  refine wp_region_still_tail 5 (by kernel_rfl) (by kernel_rfl) ?_
  simp only [List.take_succ_cons, List.take_zero, List.drop_succ_cons, List.drop_zero]
  change wpStill _ _ V.drew _ _ _
  iterate 5 still_step
  refine wpStill_nil ?_
  change wpList _ _ _ _ _ V.drew
  have ENV := Lib.hid (EN.out V.drew HBV.out.drew)
  go_wp2_with fail
  refine ENV.out.mono ?_
  rintro e w1 ⟨bm, n, f, rfl, hM, hn, hE, hbm, hb1⟩
  have P1 : Hid (PIn w1 h a b ord met) := (PB.out.below (Below.refl _ _).drew).below hb1
  have K1 : Hid (Keep h.S W w1) := (HKP.out.trans (Keep.of_below (Below.refl _ _).drew)).trans (Keep.of_below hb1)
  have BV1 : Hid (Below w0.heap.size w0 w1) := (HBV.out.drew).trans (hb1.mono HBV.out.size)
  have x2' : w1.cell? ⟨W.heap.size, 2, none⟩ = some (.slice x.ka x.kids.length x.kc) := (hb1.cell (p := ⟨W.heap.size, 2, none⟩) (block_lt_of_cell x2)).trans x2
  have NSB : Hid (¬ h.S bm) := (PB.out.below (Below.refl _ _).drew).notS hbm
  have M1 := Lib.hid hM
  have HE := Lib.hid hE
  clear hM hE hb1 x2 y0 y1 y2 p2 p3 ENV EN PB HKP HBV hbm
  obtain ⟨KL, hKL⟩ : ∃ KL, KL = x.kids.length := ⟨_, rfl⟩
  rw [← hKL] at x2' hlx ⊢
  have HKL := Lib.hid hKL
  clear hKL
  obtain ⟨FIN, hFIN⟩ : ∃ FIN, FIN = (goF (toF (chs a b ord) N) (mapsTo a.ns b.ns x.kids y.kids (KL / 2)).2 met) := ⟨_, rfl⟩
  obtain ⟨FOK, hFOK⟩ : ∃ FOK, FOK = (mapsTo a.ns b.ns x.kids y.kids (KL / 2)).1 := ⟨_, rfl⟩
  rw [← hFIN, ← hFOK]
  have HFIN := Lib.hid hFIN
  have HFOK := Lib.hid hFOK
  clear hFIN hFOK
  have RXI : Hid (∀ i, 2 * i + 1 < KL → InU a.ns.length a.ns.length (x.kids.getD (2 * i) 0, x.kids.getD (2 * i + 1) 0)) := fun i hi => by
    have h1 := RX0.out (x.kids.getD (2 * i) 0) (getD_mem (by rw [← HKL.out]; omega))
    have h2 := RX0.out (x.kids.getD (2 * i + 1) 0) (getD_mem (by rw [← HKL.out]; omega))
    exact ⟨h1.1, h1.2, h2.1, h2.2⟩
  have EMI : Hid (∀ k e, entTo b.ns y.kids (y.kids.length / 2) k = some e → (0 ≤ e.1 ∧ e.1 < b.ns.length) ∧ (0 ≤ e.2 ∧ e.2 < b.ns.length)) := fun k e he => by
    have h1 := entTo_mem (y.kids.length / 2) (by omega) he
    exact ⟨right_kids HT.out.rb YM.out _ h1.1, right_kids HT.out.rb YM.out _ h1.2.1⟩
  go_wp2_with fail
  go_loopw [8] (fun v wr => ∃ (i : Nat) (mi : PrL), i ≤ KL / 2 ∧ v = .int .i64 ((2 * i : Nat) : Int) ∧ Hid (PIn wr h a b ord mi) ∧ Hid (Keep h.S W wr) ∧ Hid (Below w0.heap.size w0 wr) ∧ Hid (MF wr 60 bm n f) ∧ Hid ((mapsTo a.ns b.ns x.kids y.kids i).1 = true ∧ goF (toF (chs a b ord) N) (mapsTo a.ns b.ns x.kids y.kids i).2 met = (true, mi)) ∧ Hid (OkM a.ns.length b.ns.length mi ∧ mu a.ns.length b.ns.length mi < N) ∧ wr.cell? ⟨W.heap.size, 2, none⟩ = some (.slice x.ka KL x.kc)) (fun v _ => KL - (intOf v).toNat)
  case atStart => exact ⟨0, met, Nat.zero_le _, rfl, P1.out, K1.out, BV1.out, M1.out, ⟨rfl, rfl⟩, ⟨HOK.out, HMU.out⟩, x2'⟩
  case round =>
    obtain ⟨i, mi, hi, rfl, hp, hk, hb, hm, hst, hou, xc⟩ := hrel
    by_cases hlt : 2 * i + 1 < KL
    · have hltI : (2 * (i : Int) + 1) < (KL : Int) := by omega
      have hltI2 : (2 * (i : Int)) < (KL : Int) := by omega
      have ht1 : (2 * (i : Int)).toNat = 2 * i := by omega
      have ht2 : (2 * (i : Int) + 1).toNat = 2 * i + 1 := by omega
      have ht3 : IntKind.i64.wrap (2 * (i : Int) + 1) = 2 * (i : Int) + 1 := IntWalk.i64_in _ ⟨by omega, by omega⟩
      have ht4 : (0 : Int) ≤ 2 * (i : Int) + 1 := by omega
      have ht5 : (0 : Int) ≤ 2 * (i : Int) := by omega
      obtain ⟨bk, ok, hka, hbk, hkc⟩ := (KX.out.below hb.out).get (2 * i) (by rw [← HKL.out]; omega)
      obtain ⟨bk', ok', hka', hbk', hkc'⟩ := (KX.out.below hb.out).get (2 * i + 1) (by rw [← HKL.out]; omega)
      obtain ⟨rfl, rfl⟩ : bk = bk' ∧ ok = ok' := by
        rw [hka] at hka'
        injection hka' with h
        injection h with h1 h2
        exact ⟨h1, h2⟩
      have NSK : Hid (¬ h.S bk) := fun hs => by
        obtain ⟨b9, o9, h9, h8, _⟩ := KX.out.get (2 * i) (by rw [← HKL.out]; omega)
        rw [hka] at h9
        injection h9 with h9
        injection h9 with h9 _
        subst h9
        have := HT.out.hS _ hs
        omega
      have HX := RXI.out i hlt
      have HENT : Hid (f (gkey (keyAt a.ns (x.kids.getD (2 * i) 0))) = (entTo b.ns y.kids (y.kids.length / 2) (keyAt a.ns (x.kids.getD (2 * i) 0))).map pairV) := HE.out _
      have HM1 : Hid (∀ e, entTo b.ns y.kids (y.kids.length / 2) (keyAt a.ns (x.kids.getD (2 * i) 0)) = some e → mapsTo a.ns b.ns x.kids y.kids (i + 1) = (true, (mapsTo a.ns b.ns x.kids y.kids i).2 ++ [(x.kids.getD (2 * i) 0, e.1), (x.kids.getD (2 * i + 1) 0, e.2)])) := fun e he => mapsTo_some hst.out.1 he
      have HM0 : Hid (entTo b.ns y.kids (y.kids.length / 2) (keyAt a.ns (x.kids.getD (2 * i) 0)) = none → FIN = (true, mi) ∧ FOK = false) := fun he => by
        have h1 := mapsTo_none hst.out.1 he
        have h2 := mapsTo_false (A := a.ns) (B := b.ns) (xk := x.kids) (yk := y.kids) (i := i + 1) (by rw [h1]) (KL / 2) (by omega)
        rw [HFIN.out, HFOK.out, h2, h1]
        exact ⟨hst.out.2, rfl⟩
      generalize x.kids.getD (2 * i) 0 = xa at hkc HX HENT HM1 HM0
      generalize x.kids.getD (2 * i + 1) 0 = xb at hkc' HX HM1
      obtain ⟨xn, rfl⟩ : ∃ xn : Nat, xa = (xn : Int) := ⟨xa.toNat, by have := HX.1; simp only at this; omega⟩
      obtain ⟨AL, hAL⟩ : ∃ AL, AL = a.ns.length := ⟨_, rfl⟩
      have hxn : xn < AL := by have := HX.2.1; simp only at this; omega
      have hxI : (xn : Int) < (AL : Int) := by omega
      obtain ⟨bg, og, hAg, hbg, hg0, hg1, hg2⟩ := (HT.out.ga.below hb.out).get xn (by rw [← hAL]; exact hxn)
      have HKA : Hid (keyAt a.ns (xn : Int) = ((a.ns.getD xn nd0).kind, (a.ns.getD xn nd0).txt)) := rfl
      have HTX := (HT.out.sa (a.ns.getD xn nd0) (getD_memD (by rw [← hAL]; exact hxn))).1
      have HWK := (HT.out.ga.kids (a.ns.getD xn nd0) (getD_memD (by rw [← hAL]; exact hxn))).kwf
      rw [HKA.out] at HENT HM1 HM0
      generalize a.ns.getD xn nd0 = nd at hg0 hg1 hg2 HENT HM1 HM0 HTX HWK
      obtain ⟨xk, xt, xkids, xka, xkc⟩ := nd
      simp only at hg0 hg1 hg2 HENT HM1 HM0 HTX HWK
      clear HKA hka'
      generalize xkids.length = xkl at hg2
      have c0 := bcell hp.out.box 0
      unfold pCells at c0
      rw [← hAL] at c0
      have HAL := Lib.hid hAL
      have HKX := Lib.hid hka
      rw [hAg] at c0
      rw [hka] at xc
      replace c0 : wr.cell? ⟨h.p, 0, none⟩ = some (.slice (some ⟨bg, og, none⟩) AL a.c) := c0
      clear hAL hAg hka
      go_wp2_with fail
      go_region_held3 (fun w' => w'.cell? ⟨h.p, 0, none⟩ = some (.slice (some ⟨bg, og, none⟩) AL a.c) ∧ w'.cell? ⟨W.heap.size, 2, none⟩ = some (.slice (some ⟨bk, ok, none⟩) KL x.kc) ∧ w'.cell? ⟨bk, ok + 2 * i, none⟩ = some (.int .i64 (xn : Int)) ∧ w'.cell? ⟨bg, og + xn * 3, none⟩ = some (.int .i64 xk) ∧ w'.cell? ⟨bg, og + xn * 3 + 1, none⟩ = some (.string xt) ∧ w'.cell? ⟨bg, og + xn * 3 + 2, none⟩ = some (.slice xka xkl xkc))
        (go_keep)
        (fail)
      have B5 : Hid (Below wr.heap.size wr (wr.alloc (.cells #[.int .i64 xk, .string xt, .slice xka xkl xkc] 38)).drew) := dr (ext_world wr _) 1
      have z0 : (wr.alloc (.cells #[.int .i64 xk, .string xt, .slice xka xkl xkc] 38)).drew.cell? ⟨wr.heap.size, 0, none⟩ = some (.int .i64 xk) := bcell (heap_new wr _ _) 0
      have z1 : (wr.alloc (.cells #[.int .i64 xk, .string xt, .slice xka xkl xkc] 38)).drew.cell? ⟨wr.heap.size, 1, none⟩ = some (.string xt) := bcell (heap_new wr _ _) 1
      generalize (wr.alloc (.cells #[.int .i64 xk, .string xt, .slice xka xkl xkc] 38)).drew = w5 at B5 z0 z1 ⊢
      have P5 : Hid (PIn w5 h a b ord mi) := hp.out.below B5.out
      have K5 : Hid (Keep h.S W w5) := hk.out.trans (Keep.of_below B5.out)
      have V5 : Hid (Below w0.heap.size w0 w5) := hb.out.trans (B5.out.mono hb.out.size)
      have M5 : Hid (MF w5 60 bm n f) := hm.out.below B5.out
      have xc5 : w5.cell? ⟨W.heap.size, 2, none⟩ = some (.slice (some ⟨bk, ok, none⟩) KL x.kc) := (B5.out.cell (p := ⟨W.heap.size, 2, none⟩) (block_lt_of_cell xc)).trans xc
      have k5 : w5.cell? ⟨bk, ok + 2 * i, none⟩ = some (.int .i64 (xn : Int)) := (B5.out.cell (p := ⟨bk, _, none⟩) hbk).trans hkc
      have k6 : w5.cell? ⟨bk, ok + (2 * i + 1), none⟩ = some (.int .i64 xb) := (B5.out.cell (p := ⟨bk, _, none⟩) hbk).trans hkc'
      have LK := lookE M5.out (s := xt) HWK HTX
      rw [HENT.out] at LK
      clear hg0 hg1 hg2 hkc hkc' xc B5 hp hk hb hm c0
      cases hent : entTo b.ns y.kids (y.kids.length / 2) (xk, xt) with
      | none =>
        have HF := Lib.hid (HM0.out hent)
        rw [hent] at LK
        clear HM1 HM0 HENT hent
        simp only [Option.map_none, Option.getD_none, Option.isSome_none] at LK
        have FR1 : Hid ((FIN.1 && FOK) = false ∧ FIN.2 = mi) := by show _ ∧ _; rw [HF.out.1, HF.out.2]; exact ⟨rfl, rfl⟩
        have P6 : Hid (∀ q, PIn ((w5.alloc (.cells #[.int .i64 0, .int .i64 0] 55)).drewN q) h a b ord mi) := fun q => P5.out.below (dr (ext_world w5 _) q)
        have K6 : Hid (∀ q, Keep h.S W ((w5.alloc (.cells #[.int .i64 0, .int .i64 0] 55)).drewN q)) := fun q => K5.out.trans (Keep.of_below (dr (ext_world w5 _) q))
        go_wp2_with fail
        go_quiet (fail)
        go_wp2_with fail
        go_ret
        unfold ToPost
        rw [← HKL.out, ← HFIN.out, ← HFOK.out]
        exact ⟨(congrArg (fun t => Ending.returned (.bool t)) FR1.out.1).symm, by rw [FR1.out.2]; exact P6.out _, K6.out _⟩
      | some e =>
        have HE1 := Lib.hid (HM1.out e hent)
        have HEM := Lib.hid (EMI.out _ e hent)
        rw [hent] at LK
        clear HM1 HM0 HENT hent
        obtain ⟨ea, eb⟩ := e
        simp only [Option.map_some, Option.getD_some, Option.isSome_some, pairV] at LK
        have C1 : Hid (InU a.ns.length b.ns.length ((xn : Int), ea)) := by
          have h1 := HX.1
          have h2 := HX.2.1
          have h3 := HEM.out.1
          exact ⟨h1, h2, h3.1, h3.2⟩
        have C2 : Hid (InU a.ns.length b.ns.length (xb, eb)) := by
          have h1 := HX.2.2.1
          have h2 := HX.2.2.2
          have h3 := HEM.out.2
          exact ⟨h1, h2, h3.1, h3.2⟩
        have NSQ : Hid (¬ h.S w5.heap.size) := P5.out.notS (Nat.le_refl _)
        have P6 : Hid (PIn (w5.alloc (.cells #[.int .i64 ea, .int .i64 eb] 55)) h a b ord mi) := P5.out.below (ext_world w5 _)
        have K6 : Hid (Keep h.S W (w5.alloc (.cells #[.int .i64 ea, .int .i64 eb] 55))) := K5.out.trans (Keep.of_below (ext_world w5 _))
        have V6 : Hid (Below w0.heap.size w0 (w5.alloc (.cells #[.int .i64 ea, .int .i64 eb] 55))) := V5.out.trans ((ext_world w5 _).mono V5.out.size)
        have M6 : Hid (MF (w5.alloc (.cells #[.int .i64 ea, .int .i64 eb] 55)) 60 bm n f) := M5.out.below (ext_world w5 _)
        have xc6 : (w5.alloc (.cells #[.int .i64 ea, .int .i64 eb] 55)).cell? ⟨W.heap.size, 2, none⟩ = some (.slice (some ⟨bk, ok, none⟩) KL x.kc) := ((ext_world w5 _).cell (p := ⟨W.heap.size, 2, none⟩) (block_lt_of_cell xc5)).trans xc5
        have k7 : (w5.alloc (.cells #[.int .i64 ea, .int .i64 eb] 55)).cell? ⟨bk, ok + 2 * i, none⟩ = some (.int .i64 (xn : Int)) := ((ext_world w5 _).cell (p := ⟨bk, _, none⟩) (block_lt_of_cell k5)).trans k5
        have k8 : (w5.alloc (.cells #[.int .i64 ea, .int .i64 eb] 55)).cell? ⟨bk, ok + (2 * i + 1), none⟩ = some (.int .i64 xb) := ((ext_world w5 _).cell (p := ⟨bk, _, none⟩) (block_lt_of_cell k6)).trans k6
        have e0 : (w5.alloc (.cells #[.int .i64 ea, .int .i64 eb] 55)).cell? ⟨w5.heap.size, 0, none⟩ = some (.int .i64 ea) := bcell (heap_new w5 _ _) 0
        have e1 : (w5.alloc (.cells #[.int .i64 ea, .int .i64 eb] 55)).cell? ⟨w5.heap.size, 1, none⟩ = some (.int .i64 eb) := bcell (heap_new w5 _ _) 1
        go_wp2_with fail
        generalize w5.heap.size = qs at NSQ e0 e1 ⊢
        generalize (w5.alloc (.cells #[.int .i64 ea, .int .i64 eb] 55)) = w6 at P6 K6 V6 M6 xc6 k7 k8 e0 e1 ⊢
        clear P5 K5 V5 M5 xc5 k5 k6 z0 z1 LK
        have T1 := Lib.hid (HI.out w6.drew mi ((xn : Int), ea) V6.out.drew (P6.out.below (Below.refl _ _).drew) hou.out.1 C1.out hou.out.2)
        obtain ⟨r1, hr1⟩ : ∃ r1, r1 = toF (chs a b ord) N mi ((xn : Int), ea) := ⟨_, rfl⟩
        rw [← hr1] at T1
        have HR1 := Lib.hid hr1
        have OK1 : Hid (OkM a.ns.length b.ns.length r1.2 ∧ mu a.ns.length b.ns.length r1.2 < N) := by
          show _ ∧ _
          rw [hr1]
          exact ⟨toF_ok (chN_in HT.out.ra HT.out.rb) N mi _ hou.out.1 C1.out, Nat.lt_of_le_of_lt (mu_le (toF_sub _ N mi _)) hou.out.2⟩
        clear hr1
        obtain ⟨o1, m1⟩ := r1
        have G1 : Hid (goF (toF (chs a b ord) N) ((mapsTo a.ns b.ns x.kids y.kids i).2 ++ [((xn : Int), ea)]) met = (o1, m1)) := (goF_snoc hst.out.2).trans HR1.out.symm
        unfold pairV at T1
        cases o1 with
        | false =>
          have FR1 : Hid ((FIN.1 && FOK) = false ∧ FIN.2 = m1) := by
            have hp := mapsTo_pre (A := a.ns) (B := b.ns) (xk := x.kids) (yk := y.kids) (i + 1) (KL / 2) (by omega)
            rw [HE1.out] at hp
            have h1 := goF_fail G1.out ((by
              rw [show (mapsTo a.ns b.ns x.kids y.kids i).2 ++ [((xn : Int), (ea, eb).1), (xb, (ea, eb).2)] = ((mapsTo a.ns b.ns x.kids y.kids i).2 ++ [((xn : Int), ea)]) ++ [(xb, eb)] from by simp]
              exact List.prefix_append _ _ : (mapsTo a.ns b.ns x.kids y.kids i).2 ++ [((xn : Int), ea)] <+: (mapsTo a.ns b.ns x.kids y.kids i).2 ++ [((xn : Int), (ea, eb).1), (xb, (ea, eb).2)]).trans hp)
            show _ ∧ _
            rw [HFIN.out, h1]
            exact ⟨rfl, rfl⟩
          have T1b : Hid (Calls Tryd.prog 30 #[.pointer (some ⟨h.p, 0, none⟩), .agg #[.int .i64 (xn : Int), .int .i64 ea]] w6.drew (fun e w' => e = .returned (.bool false) ∧ PIn w' h a b ord m1 ∧ Keep h.S w6.drew w')) := T1.out
          clear HE1 G1 HR1 T1
          refine wp_region_two' 12 26 rfl (by kernel_rfl) (by kernel_rfl) ?_
          intro L0 hL0
          simp only [List.take_succ_cons, List.take_zero, List.drop_succ_cons, List.drop_zero] at hL0 ⊢
          replace hL0 := Lib.hid hL0
          change wpStill _ _ w6.drew _ _ _
          iterate 12 still_step
          refine wpStill_nil ?_
          refine hL0.out _ ?_
          clear hL0 L0
          intro K hK
          replace hK := Lib.hid hK
          change (if Region.wanted _ _ = true then Oper.wp _ _ _ w6.drew _ _ else K _ w6.drew)
          go_simp
          with_reducible refine T1b.out.mono ?_
          rintro e' w7 ⟨rfl, hp7, hk7⟩
          show K _ w7
          refine hK.out _ _ ?_
          clear hK K
          intro L hL
          replace hL := Lib.hid hL
          iterate 3 still_step
          iterate 10 ((with_reducible refine wpStill_off ?_ ?_); (focus kernel_rfl); simp only [Act.put, List.setIfInBounds_toArray, List.set_cons_zero, List.set_cons_succ])
          with_reducible refine wpStill_nil ?_
          with_reducible refine hL.out _ ?_
          clear hL L
          go_wp2_with fail
          go_ret
          unfold ToPost
          rw [← HKL.out, ← HFIN.out, ← HFOK.out]
          exact ⟨(congrArg (fun t => Ending.returned (.bool t)) FR1.out.1).symm, by rw [FR1.out.2]; exact hp7, (K6.out.trans (Keep.of_below (Below.refl _ _).drew)).trans hk7⟩
        | true =>
          have T1b : Hid (Calls Tryd.prog 30 #[.pointer (some ⟨h.p, 0, none⟩), .agg #[.int .i64 (xn : Int), .int .i64 ea]] w6.drew (fun e w' => e = .returned (.bool true) ∧ PIn w' h a b ord m1 ∧ Keep h.S w6.drew w')) := T1.out
          obtain ⟨r2, hr2⟩ : ∃ r2, r2 = toF (chs a b ord) N m1 (xb, eb) := ⟨_, rfl⟩
          have TT2 : Hid (∀ V, Below w0.heap.size w0 V → PIn V h a b ord m1 → Calls Tryd.prog 30 #[.pointer (some ⟨h.p, 0, none⟩), .agg #[.int .i64 xb, .int .i64 eb]] V (ToPost h a b ord r2 V)) := fun V hV hP => by
            rw [hr2]
            exact HI.out V m1 (xb, eb) hV hP OK1.out.1 C2.out OK1.out.2
          have OK2 : Hid (OkM a.ns.length b.ns.length r2.2 ∧ mu a.ns.length b.ns.length r2.2 < N) := by
            show _ ∧ _
            rw [hr2]
            exact ⟨toF_ok (chN_in HT.out.ra HT.out.rb) N m1 _ OK1.out.1 C2.out, Nat.lt_of_le_of_lt (mu_le (toF_sub _ N m1 _)) OK1.out.2⟩
          have G2 : Hid (goF (toF (chs a b ord) N) ((mapsTo a.ns b.ns x.kids y.kids i).2 ++ [((xn : Int), (ea, eb).1), (xb, (ea, eb).2)]) met = r2) := by
            have h9 := (goF_snoc (c := (xb, eb)) G1.out).trans hr2.symm
            rw [List.append_assoc] at h9
            exact h9
          clear hr2 T1 G1 HR1
          obtain ⟨o2, m2⟩ := r2
          have VD := Lib.hid V6.out.drew
          have HSB : Hid (∀ V, Keep h.S w6.drew V → Below w0.heap.size w0 V) := fun V hV => hV.below VD.out HT.out.hS VD.out.size
          refine wp_region_two' 12 26 rfl (by kernel_rfl) (by kernel_rfl) ?_
          intro L0 hL0
          simp only [List.take_succ_cons, List.take_zero, List.drop_succ_cons, List.drop_zero] at hL0 ⊢
          replace hL0 := Lib.hid hL0
          change wpStill _ _ w6.drew _ _ _
          iterate 12 still_step
          refine wpStill_nil ?_
          refine hL0.out _ ?_
          clear hL0 L0
          intro K hK
          replace hK := Lib.hid hK
          change (if Region.wanted _ _ = true then Oper.wp _ _ _ w6.drew _ _ else K _ w6.drew)
          go_simp
          with_reducible refine T1b.out.mono ?_
          rintro e' w7 ⟨rfl, hp7, hk7⟩
          show K _ w7
          refine hK.out _ _ ?_
          clear hK K
          intro L hL
          replace hL := Lib.hid hL
          have xc7 : w7.cell? ⟨W.heap.size, 2, none⟩ = some (.slice (some ⟨bk, ok, none⟩) KL x.kc) := hk7.cell (show w6.drew.cell? _ = _ from xc6) NSX.out
          have k9 : w7.cell? ⟨bk, ok + (2 * i + 1), none⟩ = some (.int .i64 xb) := hk7.cell (show w6.drew.cell? _ = _ from k8) NSK.out
          have e7 : w7.cell? ⟨qs, 1, none⟩ = some (.int .i64 eb) := hk7.cell (show w6.drew.cell? _ = _ from e1) NSQ.out
          have T2 := Lib.hid (TT2.out w7 (HSB.out _ hk7) hp7)
          have K7 : Hid (Keep h.S W w7) := (K6.out.trans (Keep.of_below (Below.refl _ _).drew)).trans hk7
          have V7 := Lib.hid (HSB.out _ hk7)
          have M7 : Hid (MF w7 60 bm n f) := (M6.out.below (Below.refl _ _).drew).keep hk7 NSB.out
          clear hk7 hp7 xc6 k7 k8 e0 e1 P6 K6 V6 M6 VD HSB TT2 T1b
          iterate 13 still_step
          with_reducible refine wpStill_nil ?_
          with_reducible refine hL.out _ ?_
          clear hL L
          cases o2 with
          | false =>
            have T2b : Hid (Calls Tryd.prog 30 #[.pointer (some ⟨h.p, 0, none⟩), .agg #[.int .i64 xb, .int .i64 eb]] w7 (fun e w' => e = .returned (.bool false) ∧ PIn w' h a b ord m2 ∧ Keep h.S w7 w')) := T2.out
            have FR1 : Hid ((FIN.1 && FOK) = false ∧ FIN.2 = m2) := by
              have hp := mapsTo_pre (A := a.ns) (B := b.ns) (xk := x.kids) (yk := y.kids) (i + 1) (KL / 2) (by omega)
              rw [HE1.out] at hp
              have h1 := goF_fail G2.out hp
              show _ ∧ _
              rw [HFIN.out, h1]
              exact ⟨rfl, rfl⟩
            clear T2 HE1 G2
            go_wp2_with (go_at_call 30; (with_reducible refine T2b.out.mono ?_); rintro e' w8 ⟨rfl, hp8, hk8⟩)
            go_ret
            unfold ToPost
            rw [← HKL.out, ← HFIN.out, ← HFOK.out]
            exact ⟨(congrArg (fun t => Ending.returned (.bool t)) FR1.out.1).symm, by rw [FR1.out.2]; exact hp8, K7.out.trans hk8⟩
          | true =>
            have T2b : Hid (Calls Tryd.prog 30 #[.pointer (some ⟨h.p, 0, none⟩), .agg #[.int .i64 xb, .int .i64 eb]] w7 (fun e w' => e = .returned (.bool true) ∧ PIn w' h a b ord m2 ∧ Keep h.S w7 w')) := T2.out
            clear T2
            go_wp2_with (go_at_call 30; (with_reducible refine T2b.out.mono ?_); rintro e' w8 ⟨rfl, hp8, hk8⟩)
            go_roundw
            case rel =>
              refine ⟨i + 1, m2, by omega, by go_num, hp8, K7.out.trans hk8, hk8.below V7.out HT.out.hS V7.out.size, M7.out.keep hk8 NSB.out, ?_, OK2.out, ?_⟩
              · show _ ∧ _
                rw [HE1.out]
                exact ⟨rfl, G2.out⟩
              · rw [HKX.out]
                exact hk8.cell xc7 NSX.out
            case measure => simp [intOf]; omega
    · obtain rfl : i = KL / 2 := by omega
      have hltI : ¬ ((2 * (((KL / 2 : Nat)) : Int) + 1) < (KL : Int)) := by omega
      have ht3 : IntKind.i64.wrap (2 * (((KL / 2 : Nat)) : Int) + 1) = 2 * (((KL / 2 : Nat)) : Int) + 1 := IntWalk.i64_in _ ⟨by omega, by omega⟩
      have FR1 : Hid (FIN = (true, mi) ∧ FOK = true) := by
        show _ ∧ _
        rw [HFIN.out, HFOK.out]
        exact ⟨hst.out.2, hst.out.1⟩
      go_wp2_with fail
      go_ret
      unfold ToPost
      rw [← HKL.out, ← HFIN.out, ← HFOK.out, FR1.out.1, FR1.out.2]
      exact ⟨rfl, hp.out, hk.out⟩
end Go.Proofs.YtpgncjfmaeiaaaaDoor.Is
