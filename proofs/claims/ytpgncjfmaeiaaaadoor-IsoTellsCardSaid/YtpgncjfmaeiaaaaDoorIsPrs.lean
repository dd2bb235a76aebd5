/- The document's pairs: the walk. Conditions: right graphs; texts and rows no longer than 10^6. -/
import Derived.Test.YtpgncjfmaeiaaaaDoorIsPrsP
set_option linter.unusedVariables false
namespace Go.Proofs.YtpgncjfmaeiaaaaDoor.Is
open Go.RowKit
structure BoxH (w V : World) (qx qy : Nat) (X Y : Nd) : Prop where
  below : Below w.heap.size w V
  x : V.heap[qx]? = some (.cells #[.int .i64 X.kind, .string X.txt, .slice X.ka X.kids.length X.kc] 38 (0, 0))
  y : V.heap[qy]? = some (.cells #[.int .i64 Y.kind, .string Y.txt, .slice Y.ka Y.kids.length Y.kc] 38 (0, 0))
theorem box_two (w : World) (X Y : Nd) : BoxH w ((w.alloc (ndObj X)).alloc (ndObj Y)).drew w.heap.size (w.heap.size + 1) X Y := by
  have hs1 : (w.alloc (ndObj X)).heap.size = w.heap.size + 1 := by simp
  have hx : ((w.alloc (ndObj X)).alloc (ndObj Y)).drew.heap[w.heap.size]? = some (ndObj X) := ((ext_world (w.alloc (ndObj X)) _).block w.heap.size (by simp)).trans (heap_new w _ _)
  have hy : ((w.alloc (ndObj X)).alloc (ndObj Y)).drew.heap[w.heap.size + 1]? = some (ndObj Y) := by
    have h9 := heap_new (w.alloc (ndObj X)) #[.int .i64 Y.kind, .string Y.txt, .slice Y.ka Y.kids.length Y.kc] 38
    rw [hs1] at h9
    exact h9
  exact ⟨dr ((ext_world w _).alloc (by simp) _) 1, hx, hy⟩
theorem BoxH.swap {w V : World} {qx qy : Nat} {X Y : Nd} (h : BoxH w V qx qy X Y) : BoxH w V qy qx Y X := ⟨h.below, h.y, h.x⟩
theorem blk_below {w w' : World} {q : Nat} {o : Obj} (h : w.heap[q]? = some o) (hb : Below w.heap.size w w') : w'.heap[q]? = some o := (hb.block _ (blt h)).trans h
theorem blk_grown {w w' : World} {base size n q : Nat} {e t : TypeId} {v : Value} {xs : List Value} {cs : Array Value} (hro : w.ownsRow base e size v n xs) (hg : w.grownBy w' v.ownBlock) (hq : w.heap[q]? = some (.cells cs t (0, 0))) (hne : e ≠ t) : w'.heap[q]? = some (.cells cs t (0, 0)) := (hg.block _ (blt hq) (row_ne hro hq hne)).trans hq
def PairsPost (a b : Gv) (ord : Bool) (w : World) (e : Ending) (w' : World) : Prop :=
  (AG a b ord ∧ ∃ A c l, e = .returned (.tuple #[.slice A l.length c, .bool true]) ∧ PrRow w' A l ∧ l.Nodup ∧ (∀ y, RchR a b ord y ↔ y ∈ l) ∧ l.length ≤ 20000000 ∧ Below w.heap.size w w') ∨
  (¬ AG a b ord ∧ e = .returned (.tuple #[.slice none 0 0, .bool false]) ∧ Below w.heap.size w w')
theorem pr_first (w : World) (x : Int × Int) : PRow (w.alloc (.cells #[.int .i64 x.1, .int .i64 x.2] 75)) w.heap.size (some ⟨w.heap.size, 0, none⟩) 1 [x] :=
  ⟨rfl, Or.inr ⟨w.heap.size, 1, _, rfl, Nat.le_refl _, heap_new w _ _, Nat.le_refl _, by unfold maxLen; omega, rfl, rfl⟩⟩
set_option maxRecDepth 100000 in
set_option maxHeartbeats 12800000 in
theorem pairs_any (a b : Gv) (ord : Bool) (w : World) (Ga : GrIn w a) (Gb : GrIn w b) (sa : ∀ m ∈ a.ns, m.txt.size ≤ 1000000 ∧ m.kids.length ≤ 1000000) (sb : ∀ m ∈ b.ns, m.txt.size ≤ 1000000 ∧ m.kids.length ≤ 1000000) (ra : rightN a = true) (rb : rightN b = true) :
    Calls Tryd.prog 22 #[a.val, b.val, .bool ord] w (PairsPost a b ord w) := by
  have HA := Lib.hid Ga
  have HB := Lib.hid Gb
  have HSA := Lib.hid sa
  have HSB := Lib.hid sb
  have HRA := Lib.hid ra
  have HRB := Lib.hid rb
  obtain ⟨i0, hi0, hz0, hz1, hz2⟩ := info_parts infoPair
  have hs1 : (w.alloc (.cells #[.slice a.A a.ns.length a.c, .int .i64 a.root] 24)).heap.size = w.heap.size + 1 := by simp
  have hs2 : ((w.alloc (.cells #[.slice a.A a.ns.length a.c, .int .i64 a.root] 24)).alloc (.cells #[.slice b.A b.ns.length b.c, .int .i64 b.root] 24)).heap.size = w.heap.size + 2 := by simp
  have ha0 : Hid ((((w.alloc (.cells #[.slice a.A a.ns.length a.c, .int .i64 a.root] 24)).alloc (.cells #[.slice b.A b.ns.length b.c, .int .i64 b.root] 24)).alloc (.cells #[.int .i64 a.root, .int .i64 b.root] 75)).heap[w.heap.size]? = some (.cells #[.slice a.A a.ns.length a.c, .int .i64 a.root] 24 (0, 0))) := blk_below (blk_below (heap_new w _ _) (ext_world _ _)) (ext_world _ _)
  have hb0 : Hid ((((w.alloc (.cells #[.slice a.A a.ns.length a.c, .int .i64 a.root] 24)).alloc (.cells #[.slice b.A b.ns.length b.c, .int .i64 b.root] 24)).alloc (.cells #[.int .i64 a.root, .int .i64 b.root] 75)).heap[w.heap.size + 1]? = some (.cells #[.slice b.A b.ns.length b.c, .int .i64 b.root] 24 (0, 0))) := by
    have h9 := heap_new (w.alloc (.cells #[.slice a.A a.ns.length a.c, .int .i64 a.root] 24)) #[.slice b.A b.ns.length b.c, .int .i64 b.root] 24
    rw [hs1] at h9
    exact blk_below h9 (ext_world _ _)
  have hr0 : Hid (PRow (((w.alloc (.cells #[.slice a.A a.ns.length a.c, .int .i64 a.root] 24)).alloc (.cells #[.slice b.A b.ns.length b.c, .int .i64 b.root] 24)).alloc (.cells #[.int .i64 a.root, .int .i64 b.root] 75)) (w.heap.size + 2) (some ⟨w.heap.size + 2, 0, none⟩) 1 [(a.root, b.root)]) := by
    have h9 := pr_first ((w.alloc (.cells #[.slice a.A a.ns.length a.c, .int .i64 a.root] 24)).alloc (.cells #[.slice b.A b.ns.length b.c, .int .i64 b.root] 24)) (a.root, b.root)
    rw [hs2] at h9
    exact h9
  have hv0 : Hid (Below w.heap.size w (((w.alloc (.cells #[.slice a.A a.ns.length a.c, .int .i64 a.root] 24)).alloc (.cells #[.slice b.A b.ns.length b.c, .int .i64 b.root] 24)).alloc (.cells #[.int .i64 a.root, .int .i64 b.root] 75))) := ((ext_world w _).alloc (by simp) _).alloc (by simp; omega) _
  have g0 : ((w.alloc (.cells #[.slice a.A a.ns.length a.c, .int .i64 a.root] 24)).alloc (.cells #[.slice b.A b.ns.length b.c, .int .i64 b.root] 24)).cell? ⟨w.heap.size, 1, none⟩ = some (.int .i64 a.root) := bcell (blk_below (heap_new w _ _) (ext_world _ _)) 1
  have g1 : ((w.alloc (.cells #[.slice a.A a.ns.length a.c, .int .i64 a.root] 24)).alloc (.cells #[.slice b.A b.ns.length b.c, .int .i64 b.root] 24)).cell? ⟨w.heap.size + 1, 1, none⟩ = some (.int .i64 b.root) := by
    have h9 := bcell (heap_new (w.alloc (.cells #[.slice a.A a.ns.length a.c, .int .i64 a.root] 24)) #[.slice b.A b.ns.length b.c, .int .i64 b.root] 24) 1
    rw [hs1] at h9
    exact h9
  unfold Gv.val
  clear Ga Gb sa sb ra rb hs1 hs2
  go_enter Tryd.func22, Tryd.ntmps22
  go_wp2_with fail
  clear g0 g1
  go_loopw [8, 9] (fun u v wr => ∃ (l : PrL) (A : Option Addr) (c i : Nat), i ≤ l.length ∧ u = .slice A l.length c ∧ v = .int .i64 (i : Nat) ∧ Hid (PRow wr (w.heap.size + 2) A c l) ∧ Hid (PairsInv a b ord l i) ∧ Hid (Below w.heap.size w wr) ∧ Hid (wr.heap[w.heap.size]? = some (.cells #[.slice a.A a.ns.length a.c, .int .i64 a.root] 24 (0, 0))) ∧ Hid (wr.heap[w.heap.size + 1]? = some (.cells #[.slice b.A b.ns.length b.c, .int .i64 b.root] 24 (0, 0)))) (fun _ v _ => 20000001 - (intOf v).toNat)
  case atStart => exact ⟨[(a.root, b.root)], _, _, 0, Nat.zero_le _, rfl, rfl, hr0.out, PairsInv.start a b ord, hv0.out, ha0.out, hb0.out⟩
  case round =>
    clear hr0 hv0 ha0 hb0
    obtain ⟨l, A, c, i, hil, rfl, rfl, hrow, hI, hv, ha, hb⟩ := hrel
    have hlen := hI.out.len HRA.out HRB.out
    by_cases hlt : i < l.length
    · have hltI : (i : Int) < (l.length : Int) := by omega
      obtain ⟨b8, o8, hA8, hb8, r0, r1⟩ := hrow.out.prrow i hlt
      have HXM : Hid (l.getD i (0, 0) ∈ l) := by
        show _ ∈ _
        rw [List.getD_eq_getElem?_getD, List.getElem?_eq_getElem hlt]
        exact List.getElem_mem _
      obtain ⟨x, hx⟩ : ∃ x, x = l.getD i (0, 0) := ⟨_, rfl⟩
      rw [← hx] at r0 r1 HXM
      have HXX := Lib.hid hx.symm
      have HRX := Lib.hid (hI.out.reach x HXM.out)
      have hin := rch_in HRA.out HRB.out HRX.out
      clear hx HXM
      have HDA := Lib.hid (dist_l HRA.out hin.1 hin.2.1)
      have HDB := Lib.hid (dist_l HRB.out hin.2.2.1 hin.2.2.2)
      obtain ⟨xa, xb⟩ := x
      simp only at r0 r1 hin
      obtain ⟨x1, x2, x3, x4⟩ := hin
      obtain ⟨xn, rfl⟩ : ∃ xn : Nat, xa = (xn : Int) := ⟨xa.toNat, by omega⟩
      obtain ⟨yn, rfl⟩ : ∃ yn : Nat, xb = (yn : Int) := ⟨xb.toNat, by omega⟩
      have hxI : xn < a.ns.length := by omega
      have hyI : yn < b.ns.length := by omega
      obtain ⟨bg, og, hAg, hbg, g0, g1, g2⟩ := (HA.out.below hv.out).get xn hxI
      obtain ⟨bh, oh, hAh, hbh, h0, h1, h2⟩ := (HB.out.below hv.out).get yn hyI
      have c0 : wr.cell? ⟨w.heap.size, 0, none⟩ = some (.slice a.A a.ns.length a.c) := bcell ha.out 0
      have c2 : wr.cell? ⟨w.heap.size + 1, 0, none⟩ = some (.slice b.A b.ns.length b.c) := bcell hb.out 0
      have XM := Lib.hid (getD_memD hxI)
      have YM := Lib.hid (getD_memD hyI)
      have HXN : Hid (ndOf a (xn : Int) = a.ns.getD xn nd0) := rfl
      have HYN : Hid (ndOf b (yn : Int) = b.ns.getD yn nd0) := rfl
      generalize a.ns.getD xn nd0 = X at g0 g1 g2 XM HXN
      generalize b.ns.getD yn nd0 = Y at h0 h1 h2 YM HYN
      have HDX : Hid (Dist a.ns X) := by rw [← HXN.out]; exact HDA.out
      have HDY : Hid (Dist b.ns Y) := by rw [← HYN.out]; exact HDB.out
      have HNAG : Hid (¬ GoodO a b ord ((xn : Int), (yn : Int)) → ¬ AG a b ord) := not_ag HRA.out HRB.out HRX.out
      have HSH : Hid (SameHead a b ((xn : Int), (yn : Int)) ↔ X.kind = Y.kind ∧ X.txt = Y.txt ∧ X.kids.length = Y.kids.length) := by
        unfold SameHead
        simp only
        rw [HXN.out, HYN.out]
        exact Iff.rfl
      have HBADH : Hid (¬ (X.kind = Y.kind ∧ X.txt = Y.txt ∧ X.kids.length = Y.kids.length) → ¬ AG a b ord) := fun h => HNAG.out fun hg => h (HSH.out.1 ⟨hg.1, hg.2.1, hg.2.2.1⟩)
      rw [hAg] at c0
      rw [hAh] at c2
      have HAG := Lib.hid hAg
      have HAH := Lib.hid hAh
      subst hA8
      clear hAg hAh hbg hbh HDA HDB x1 x2 x3 x4 hb8
      go_wp2_with fail
      go_region_held3 (fun w' => w'.cell? ⟨w.heap.size, 0, none⟩ = some (.slice (some ⟨bg, og, none⟩) a.ns.length a.c) ∧ w'.cell? ⟨w.heap.size + 1, 0, none⟩ = some (.slice (some ⟨bh, oh, none⟩) b.ns.length b.c) ∧ w'.cell? ⟨b8, o8 + i * 2, none⟩ = some (.int .i64 (xn : Int)) ∧ w'.cell? ⟨b8, o8 + i * 2 + 1, none⟩ = some (.int .i64 (yn : Int)) ∧
          w'.cell? ⟨bg, og + xn * 3, none⟩ = some (.int .i64 X.kind) ∧ w'.cell? ⟨bg, og + xn * 3 + 1, none⟩ = some (.string X.txt) ∧ w'.cell? ⟨bg, og + xn * 3 + 2, none⟩ = some (.slice X.ka X.kids.length X.kc) ∧
          w'.cell? ⟨bh, oh + yn * 3, none⟩ = some (.int .i64 Y.kind) ∧ w'.cell? ⟨bh, oh + yn * 3 + 1, none⟩ = some (.string Y.txt) ∧ w'.cell? ⟨bh, oh + yn * 3 + 2, none⟩ = some (.slice Y.ka Y.kids.length Y.kc))
        (go_keep)
        (fail)
      all_goals
        first
          | (have BF := Lib.hid (box_two wr X Y)
             unfold ndObj at BF
             generalize ((wr.alloc (.cells #[.int .i64 X.kind, .string X.txt, .slice X.ka X.kids.length X.kc] 38)).alloc (.cells #[.int .i64 Y.kind, .string Y.txt, .slice Y.ka Y.kids.length Y.kc] 38)).drew = V at BF ⊢
             generalize wr.heap.size + 1 = qy at BF ⊢
             generalize hqx : wr.heap.size = qx at BF ⊢
             change Exit.then _ _ _ _ V)
          | (have BF := Lib.hid (box_two wr Y X).swap
             unfold ndObj at BF
             generalize ((wr.alloc (.cells #[.int .i64 Y.kind, .string Y.txt, .slice Y.ka Y.kids.length Y.kc] 38)).alloc (.cells #[.int .i64 X.kind, .string X.txt, .slice X.ka X.kids.length X.kc] 38)).drew = V at BF ⊢
             generalize wr.heap.size + 1 = qx at BF ⊢
             generalize hqy : wr.heap.size = qy at BF ⊢
             change Exit.then _ _ _ _ V)
      all_goals
        have HQX := Lib.hid BF.out.x
        have HQY := Lib.hid BF.out.y
        have v0 := bcell HQX.out 0
        have v1 := bcell HQX.out 1
        have v2 := bcell HQX.out 2
        have u0 := bcell HQY.out 0
        have u1 := bcell HQY.out 1
        have u2 := bcell HQY.out 2
        have BW : Hid (Below wr.heap.size wr V) := by have h9 := BF.out.below; first | exact h9 | (rw [hqx]; exact h9) | (rw [hqy]; exact h9)
        have BV : Hid (Below w.heap.size w V) := hv.out.trans (BW.out.mono hv.out.size)
        have AV : Hid (V.heap[w.heap.size]? = some (.cells #[.slice a.A a.ns.length a.c, .int .i64 a.root] 24 (0, 0))) := blk_below ha.out BW.out
        have BBV : Hid (V.heap[w.heap.size + 1]? = some (.cells #[.slice b.A b.ns.length b.c, .int .i64 b.root] 24 (0, 0))) := blk_below hb.out BW.out
        have RV : Hid (PRow V (w.heap.size + 2) (some ⟨b8, o8, none⟩) c l) := hrow.out.below BW.out
        have IST := Lib.hid (PairsIn.start hI.out ((xn : Int), (yn : Int)))
        clear c0 c2 g0 g1 g2 h0 h1 h2 BF r0 r1 hrow hv ha hb BW
        by_cases hk : X.kind = Y.kind
        case neg =>
          have hkI : (X.kind != Y.kind) = true := by rw [bne_iff_ne]; exact hk
          have HF := Lib.hid (HBADH.out (fun h => hk h.1))
          clear hk
          go_wp2_with fail
          exact bodyPost_ret (v := .tuple #[.slice none 0 0, .bool false]) (by simp [results, Tryd.results22, go_sem]) rfl (Or.inr ⟨HF.out, rfl, BV.out⟩)
        have hkI : (X.kind != Y.kind) = false := by rw [bne_eq_false_iff_eq]; exact hk
        by_cases ht : X.txt = Y.txt
        case neg =>
          have htL : ¬ (X.txt.toList = Y.txt.toList) := fun e => ht (toList_inj e)
          have htI : (X.txt.toList != Y.txt.toList) = true := by rw [bne_iff_ne]; exact htL
          have HF := Lib.hid (HBADH.out (fun h => ht h.2.1))
          clear ht hk
          go_wp2_with fail
          exact bodyPost_ret (v := .tuple #[.slice none 0 0, .bool false]) (by simp [results, Tryd.results22, go_sem]) rfl (Or.inr ⟨HF.out, rfl, BV.out⟩)
        have htL : X.txt.toList = Y.txt.toList := by rw [ht]
        have htI : (X.txt.toList != Y.txt.toList) = false := by rw [bne_eq_false_iff_eq]; exact htL
        by_cases hl : X.kids.length = Y.kids.length
        case neg =>
          have hlI : ((X.kids.length : Int) != (Y.kids.length : Int)) = true := by rw [bne_iff_ne]; omega
          have HF := Lib.hid (HBADH.out (fun h => hl h.2.2))
          clear ht hk
          go_wp2_with fail
          exact bodyPost_ret (v := .tuple #[.slice none 0 0, .bool false]) (by simp [results, Tryd.results22, go_sem]) rfl (Or.inr ⟨HF.out, rfl, BV.out⟩)
        have hlI : ((X.kids.length : Int) != (Y.kids.length : Int)) = false := by rw [bne_eq_false_iff_eq]; omega
        have EQ := Lib.hid (HSH.out.2 ⟨hk, ht, hl⟩)
        have HKL := Lib.hid hl
        have hklS := (HSA.out X XM.out).2
        rw [← hl] at u2
        have hlI2 : ((X.kids.length : Int) != (X.kids.length : Int)) = false := by rw [bne_eq_false_iff_eq]
        clear hk ht hl hlI HBADH HSH
        go_wp2_with fail
        clear hkI htI htL hlI2 v0 v1 v2 u0 u1 u2
        go_loopw [8, 12] (fun u v wr => ∃ (m : PrL) (A : Option Addr) (c k : Nat), k ≤ X.kids.length ∧ u = .slice A m.length c ∧ v = .int .i64 (k : Nat) ∧ Hid (PRow wr (w.heap.size + 2) A c m) ∧ Hid (PairsIn a b ord l ((xn : Int), (yn : Int)) m k) ∧ Hid (Below w.heap.size w wr) ∧ Hid (wr.heap[w.heap.size]? = some (.cells #[.slice a.A a.ns.length a.c, .int .i64 a.root] 24 (0, 0))) ∧ Hid (wr.heap[w.heap.size + 1]? = some (.cells #[.slice b.A b.ns.length b.c, .int .i64 b.root] 24 (0, 0))) ∧ Hid (wr.heap[qx]? = some (.cells #[.int .i64 X.kind, .string X.txt, .slice X.ka X.kids.length X.kc] 38 (0, 0))) ∧ Hid (wr.heap[qy]? = some (.cells #[.int .i64 Y.kind, .string Y.txt, .slice Y.ka Y.kids.length Y.kc] 38 (0, 0)))) (fun _ v _ => X.kids.length - (intOf v).toNat)
        case atStart => exact ⟨l, _, _, 0, Nat.zero_le _, rfl, rfl, RV.out, IST.out, BV.out, AV.out, BBV.out, HQX.out, HQY.out⟩
        case round =>
          clear RV IST BV AV BBV HQX HQY
          obtain ⟨m, A, c, k, hkl, rfl, rfl, hrow, hPI, hv, ha, hb, hqx', hqy'⟩ := hrel
          have hml := hPI.out.len HRA.out HRB.out
          have v0 := bcell hqx'.out 0
          have v2 := bcell hqx'.out 2
          have u2 := bcell hqy'.out 2
          by_cases hkk : k < X.kids.length
          · have hkkI : (k : Int) < (X.kids.length : Int) := by omega
            have KIDX : Hid (∀ q, q < X.kids.length → ∃ bx ox, X.ka = some ⟨bx, ox, none⟩ ∧ bx < w.heap.size ∧ w.cell? ⟨bx, ox + q, none⟩ = some (.int .i64 (X.kids.getD q 0)) ∧ 0 ≤ X.kids.getD q 0 ∧ X.kids.getD q 0 < a.ns.length) := fun q hq => by
              obtain ⟨bx, ox, h1, h2, h3⟩ := (HA.out.kids X XM.out).get q hq
              exact ⟨bx, ox, h1, h2, h3, right_kids HRA.out XM.out _ (getD_mem hq)⟩
            have KIDY : Hid (∀ q, q < X.kids.length → ∃ bx ox, Y.ka = some ⟨bx, ox, none⟩ ∧ bx < w.heap.size ∧ w.cell? ⟨bx, ox + q, none⟩ = some (.int .i64 (Y.kids.getD q 0)) ∧ 0 ≤ Y.kids.getD q 0 ∧ Y.kids.getD q 0 < b.ns.length) := fun q hq => by
              have hq' : q < Y.kids.length := by rw [← HKL.out]; exact hq
              obtain ⟨bx, ox, h1, h2, h3⟩ := (HB.out.kids Y YM.out).get q hq'
              exact ⟨bx, ox, h1, h2, h3, right_kids HRB.out YM.out _ (getD_mem hq')⟩
            have KDX : Hid (KeyGood a b ord ((xn : Int), (yn : Int)) k → KidR a b ord ((xn : Int), (yn : Int)) (pairAt a b ((xn : Int), (yn : Int)) k) ∧ ∃ J, otherIx a b ((xn : Int), (yn : Int)) k = some J ∧ J < Y.kids.length) := fun hg => by
              have h9 := kid_one EQ.out (by rw [HXN.out]; exact HDX.out) (by rw [HXN.out]; exact hkk) hg
              rw [HYN.out] at h9
              exact h9
            have KBAD : Hid (¬ KeyGood a b ord ((xn : Int), (yn : Int)) k → ¬ AG a b ord) := fun hg => HNAG.out (key_bad (by rw [HXN.out]; exact HDX.out) (by rw [HYN.out]; exact HDY.out) (by rw [HXN.out]; exact hkk) hg)
            by_cases h6 : X.kind = 6
            · have h6I : (X.kind == 6) = true := by rw [beq_iff_eq]; exact h6
              have H6 := Lib.hid h6
              obtain ⟨r, hr⟩ : ∃ r : Nat, r = k % 2 := ⟨_, rfl⟩
              obtain ⟨kk, hkr⟩ : ∃ kk : Nat, kk = k - k % 2 := ⟨_, rfl⟩
              have htm : ((k : Int)).tmod 2 = (r : Int) := by rw [Int.tmod_eq_emod_of_nonneg (by omega)]; omega
              have hsb : (k : Int) - (r : Int) = (kk : Int) := by omega
              have hw1 : IntKind.i64.wrap (kk : Int) = (kk : Int) := IntWalk.i64_in _ ⟨by omega, by omega⟩
              have hr2 : r < 2 := by omega
              have hkkK : kk < X.kids.length := by omega
              have hkkKI : (kk : Int) < (X.kids.length : Int) := by omega
              have HRK : Hid (r = k % 2 ∧ kk = k - k % 2) := ⟨hr, hkr⟩
              have HKG : Hid (KeyGood a b ord ((xn : Int), (yn : Int)) k ↔ ∃ j, keyIx b.ns Y.kids (keyAt a.ns (X.kids.getD kk 0)) (Y.kids.length / 2) 0 = some j ∧ (ord = true → 2 * j = kk)) := by
                unfold KeyGood
                simp only
                rw [HXN.out, HYN.out, ← hkr]
                exact ⟨fun h => h H6.out, fun h _ => h⟩
              have HOT : Hid (∀ j, keyIx b.ns Y.kids (keyAt a.ns (X.kids.getD kk 0)) (Y.kids.length / 2) 0 = some j → otherIx a b ((xn : Int), (yn : Int)) k = some (2 * j + r)) := fun j hj => by
                unfold otherIx
                simp only
                rw [HXN.out, HYN.out, if_pos H6.out, ← hkr, hj, ← hr]
                rfl
              obtain ⟨bx, ox, hkx, hbx, hcx, rx0, rx1⟩ := KIDX.out kk hkkK
              replace hcx := (hv.out.cell (p := ⟨bx, _, none⟩) hbx).trans hcx
              have HKX := Lib.hid hkx
              rw [hkx] at v2
              clear hkx h6 hr hkr
              generalize X.kids.getD kk 0 = xk at hcx rx0 rx1 HKG HOT
              obtain ⟨xkn, rfl⟩ : ∃ xkn : Nat, xk = (xkn : Int) := ⟨xk.toNat, by omega⟩
              have hxkI : xkn < a.ns.length := by omega
              have hxkJ : (xkn : Int) < (a.ns.length : Int) := by omega
              obtain ⟨bz, oz, hAz, hbz, n0, n1, n2⟩ := (HA.out.below hv.out).get xkn hxkI
              have HKA : Hid (keyAt a.ns (xkn : Int) = ((a.ns.getD xkn nd0).kind, (a.ns.getD xkn nd0).txt)) := rfl
              rw [HKA.out] at HKG HOT
              generalize a.ns.getD xkn nd0 = nd at n0 n1 n2 HKG HOT HKA
              obtain ⟨nk, nt, nkids, nka, nkc⟩ := nd
              simp only at n0 n1 n2 HKG HOT
              generalize nkids.length = nkl at n2
              have c0 : wr.cell? ⟨w.heap.size, 0, none⟩ = some (.slice a.A a.ns.length a.c) := bcell ha.out 0
              rw [hAz] at c0
              have e0 : wr.cell? ⟨w.heap.size + 1, 0, none⟩ = some (.slice b.A b.ns.length b.c) := bcell hb.out 0
              have e1 : wr.cell? ⟨w.heap.size + 1, 1, none⟩ = some (.int .i64 b.root) := bcell hb.out 1
              have u0 := bcell hqy'.out 0
              have u1 := bcell hqy'.out 1
              clear hAz hbz rx0 rx1 HKA
              go_wp2_with fail
              go_region_held3 (fun w' => w'.cell? ⟨w.heap.size, 0, none⟩ = some (.slice (some ⟨bz, oz, none⟩) a.ns.length a.c) ∧ w'.cell? ⟨qx, 2, none⟩ = some (.slice (some ⟨bx, ox, none⟩) X.kids.length X.kc) ∧ w'.cell? ⟨bx, ox + kk, none⟩ = some (.int .i64 (xkn : Int)) ∧ w'.cell? ⟨bz, oz + xkn * 3, none⟩ = some (.int .i64 nk) ∧ w'.cell? ⟨bz, oz + xkn * 3 + 1, none⟩ = some (.string nt) ∧ w'.cell? ⟨bz, oz + xkn * 3 + 2, none⟩ = some (.slice nka nkl nkc) ∧ w'.cell? ⟨w.heap.size + 1, 0, none⟩ = some (.slice b.A b.ns.length b.c) ∧ w'.cell? ⟨w.heap.size + 1, 1, none⟩ = some (.int .i64 b.root) ∧ w'.cell? ⟨qy, 0, none⟩ = some (.int .i64 Y.kind) ∧ w'.cell? ⟨qy, 1, none⟩ = some (.string Y.txt) ∧ w'.cell? ⟨qy, 2, none⟩ = some (.slice Y.ka Y.kids.length Y.kc))
                (go_keep)
                (fail)
              have B5 : Hid (Below wr.heap.size wr (wr.alloc (.cells #[.int .i64 nk, .string nt, .slice nka nkl nkc] 38)).drew) := dr (ext_world wr _) 1
              have z0 : (wr.alloc (.cells #[.int .i64 nk, .string nt, .slice nka nkl nkc] 38)).drew.cell? ⟨wr.heap.size, 0, none⟩ = some (.int .i64 nk) := bcell (heap_new wr _ _) 0
              have z1 : (wr.alloc (.cells #[.int .i64 nk, .string nt, .slice nka nkl nkc] 38)).drew.cell? ⟨wr.heap.size, 1, none⟩ = some (.string nt) := bcell (heap_new wr _ _) 1
              generalize (wr.alloc (.cells #[.int .i64 nk, .string nt, .slice nka nkl nkc] 38)).drew = w5 at B5 z0 z1 ⊢
              have V5 : Hid (Below w.heap.size w w5) := hv.out.trans (B5.out.mono hv.out.size)
              have A5 := Lib.hid (blk_below ha.out B5.out)
              have G5 := Lib.hid (blk_below hb.out B5.out)
              have X5 := Lib.hid (blk_below hqx'.out B5.out)
              have Y5 := Lib.hid (blk_below hqy'.out B5.out)
              have R5 := Lib.hid (hrow.out.below B5.out)
              generalize wr.heap.size = kb at z0 z1 ⊢
              replace e0 := bcell G5.out 0
              replace e1 := bcell G5.out 1
              replace u0 := bcell Y5.out 0
              replace u1 := bcell Y5.out 1
              replace u2 := bcell Y5.out 2
              clear c0 v0 v2 hcx n0 n1 n2 hrow hv ha hb hqx' hqy' B5
              have KY := Lib.hid (key_any b Y nk nt w5 (HB.out.below V5.out) ((HB.out.kids Y YM.out).below V5.out) (HSB.out Y YM.out).2 (right_kids HRB.out YM.out))
              unfold Gv.val Nd.val keyR at KY
              go_wp2_with fail
              refine KY.out.mono ?_
              rintro e w6 ⟨rfl, hb6⟩
              have HV : Hid (Below w.heap.size w w6) := V5.out.trans (hb6.mono V5.out.size)
              have HGA := Lib.hid (blk_below A5.out hb6)
              have HGB := Lib.hid (blk_below G5.out hb6)
              have HQX := Lib.hid (blk_below X5.out hb6)
              have HQY := Lib.hid (blk_below Y5.out hb6)
              have HROW := Lib.hid (R5.out.below hb6)
              have HPI := hPI
              clear hb6 KY z0 z1 V5 A5 G5 X5 Y5 R5 hPI u0 u1 u2 e0 e1
              cases hix : keyIx b.ns Y.kids (nk, nt) (Y.kids.length / 2) 0 with
              | none =>
                have HF : Hid (¬ AG a b ord) := KBAD.out fun h => by
                  obtain ⟨j, hj, _⟩ := HKG.out.1 h
                  rw [hix] at hj
                  cases hj
                clear hix HKG HOT
                simp only
                go_wp2_with fail
                exact bodyPost_ret (v := .tuple #[.slice none 0 0, .bool false]) (by simp [results, Tryd.results22, go_sem]) rfl (Or.inr ⟨HF.out, rfl, HV.out⟩)
              | some j =>
                have hj := keyIx_some _ _ _ hix
                have hOT := Lib.hid (HOT.out j hix)
                have hjy : 2 * j + r < X.kids.length := by have := HKL.out; have := HRK.out; omega
                have HKJ : Hid (KeyGood a b ord ((xn : Int), (yn : Int)) k ↔ (ord = true → 2 * j = kk)) := by
                  show _ ↔ _
                  rw [HKG.out]
                  constructor
                  · rintro ⟨j', h1, h2⟩
                    rw [hix] at h1
                    injection h1 with h1
                    rw [h1]
                    exact h2
                  · exact fun h => ⟨j, hix, h⟩
                have hj0 : ¬ (2 * (j : Int) < 0) := by omega
                obtain ⟨jj, hjj⟩ : ∃ jj : Nat, jj = 2 * j + r := ⟨_, rfl⟩
                have hJl : jj < X.kids.length := by rw [hjj]; exact hjy
                have hJe : 2 * (j : Int) + (r : Int) = (jj : Int) := by omega
                have hJw : IntKind.i64.wrap (jj : Int) = (jj : Int) := IntWalk.i64_in _ ⟨by omega, by omega⟩
                rw [← hjj] at hOT
                clear hj hix HKG HOT hjy hjj
                simp only
                cases ord with
                | true =>
                  by_cases hjk : 2 * j = kk
                  · have hKG : Hid (KeyGood a b true ((xn : Int), (yn : Int)) k) := HKJ.out.2 fun _ => hjk
                    have hjkI : ((2 * (j : Int)) != (kk : Int)) = false := by have := HRK.out; rw [bne_eq_false_iff_eq]; omega
                    clear HKJ hjk
                    have hPA : Hid (pairAt a b ((xn : Int), (yn : Int)) k = (X.kids.getD k 0, Y.kids.getD (jj) 0)) := by
                      show _ = _
                      unfold pairAt
                      rw [hOT.out]
                      simp only [Option.getD_some]
                      rw [HXN.out, HYN.out]
                    have hRP : Hid (RchR a b true (pairAt a b ((xn : Int), (yn : Int)) k)) := HRX.out.kid (KDX.out hKG.out).1
                    have hOLD : Hid (pairAt a b ((xn : Int), (yn : Int)) k ∈ m → PairsIn a b true l ((xn : Int), (yn : Int)) m (k + 1)) := fun h => HPI.out.old hKG.out h
                    have hNEW : Hid (pairAt a b ((xn : Int), (yn : Int)) k ∉ m → PairsIn a b true l ((xn : Int), (yn : Int)) (m ++ [pairAt a b ((xn : Int), (yn : Int)) k]) (k + 1)) := fun h => HPI.out.new hKG.out hRP.out h
                    rw [hPA.out] at hOLD hNEW
                    obtain ⟨bx, ox, hkx, hbx, hcx, rx0, rx1⟩ := KIDX.out k hkk
                    obtain ⟨by_, oy, hky, hby, hcy, ry0, ry1⟩ := KIDY.out (jj) hJl
                    replace hcx := (HV.out.cell (p := ⟨bx, _, none⟩) hbx).trans hcx
                    replace hcy := (HV.out.cell (p := ⟨by_, _, none⟩) hby).trans hcy
                    generalize X.kids.getD k 0 = xv at hcx rx0 rx1 hOLD hNEW
                    generalize Y.kids.getD (jj) 0 = yv at hcy ry0 ry1 hOLD hNEW
                    have w2 := bcell HQX.out 2
                    have t2 := bcell HQY.out 2
                    rw [hkx] at w2
                    rw [hky] at t2
                    have hjJ : ((jj : Nat) : Int) < (Y.kids.length : Int) := by have := HKL.out; omega
                    clear hkx hky hPA hKG hOT HPI KDX KBAD KIDX KIDY rx0 rx1 ry0 ry1
                    go_wp2_with fail
                    go_region_held3 (fun w' => w'.cell? ⟨qx, 2, none⟩ = some (.slice (some ⟨bx, ox, none⟩) X.kids.length X.kc) ∧ w'.cell? ⟨qy, 2, none⟩ = some (.slice (some ⟨by_, oy, none⟩) Y.kids.length Y.kc) ∧ w'.cell? ⟨bx, ox + k, none⟩ = some (.int .i64 xv) ∧ w'.cell? ⟨by_, oy + (jj), none⟩ = some (.int .i64 yv))
                      (go_keep)
                      (fail)
                    all_goals
                      have B7 : Hid (Below w6.heap.size w6 (w6.alloc (.cells #[.int .i64 xv, .int .i64 yv] 75)).drew) := dr (ext_world w6 _) 1
                      have H7 : Hid ((w6.alloc (.cells #[.int .i64 xv, .int .i64 yv] 75)).drew.heap[w6.heap.size]? = some (.cells #[.int .i64 xv, .int .i64 yv] 75 (0, 0))) := heap_new w6 _ _
                      generalize (w6.alloc (.cells #[.int .i64 xv, .int .i64 yv] 75)).drew = w7 at B7 H7 ⊢
                      have V7 : Hid (Below w.heap.size w w7) := HV.out.trans (B7.out.mono HV.out.size)
                      have A7 := Lib.hid (blk_below HGA.out B7.out)
                      have G7 := Lib.hid (blk_below HGB.out B7.out)
                      have X7 := Lib.hid (blk_below HQX.out B7.out)
                      have Y7 := Lib.hid (blk_below HQY.out B7.out)
                      have R7 := Lib.hid (HROW.out.below B7.out)
                      have z0 := bcell H7.out 0
                      have z1 := bcell H7.out 1
                      generalize w6.heap.size = q15 at H7 z0 z1 ⊢
                      clear w2 t2 hcx hcy HGA HGB HQX HQY HROW HV B7
                      have HS := Lib.hid (has_any A c m (xv, yv) w7 R7.out.prrow (by omega))
                      unfold pairV at HS
                      simp only at HS
                      go_wp2_with fail
                      by_cases hmem : (xv, yv) ∈ m
                      · rw [decide_eq_true hmem] at HS
                        have HN := Lib.hid (hOLD.out hmem)
                        refine HS.out.mono ?_
                        rintro e w8 ⟨rfl, hb8⟩
                        have HB8 := Lib.hid hb8
                        clear hb8 HS hmem hOLD hNEW
                        go_wp2_with fail
                        go_roundw
                        case rel => exact ⟨m, A, c, k + 1, by omega, rfl, by go_num, R7.out.below HB8.out, HN.out, V7.out.trans (HB8.out.mono V7.out.size), blk_below A7.out HB8.out, blk_below G7.out HB8.out, blk_below X7.out HB8.out, blk_below Y7.out HB8.out⟩
                        case measure => simp [intOf]; omega
                      · rw [decide_eq_false hmem] at HS
                        have HN := Lib.hid (hNEW.out hmem)
                        refine HS.out.mono ?_
                        rintro e w8 ⟨rfl, hb8⟩
                        have HB8 := Lib.hid hb8
                        have H8 := Lib.hid (blk_below H7.out hb8)
                        replace z0 := bcell H8.out 0
                        replace z1 := bcell H8.out 1
                        have R8 := Lib.hid (R7.out.below hb8)
                        have V8 : Hid (Below w.heap.size w w8) := V7.out.trans (hb8.mono V7.out.size)
                        have A8 := Lib.hid (blk_below A7.out hb8)
                        have G8 := Lib.hid (blk_below G7.out hb8)
                        have X8 := Lib.hid (blk_below X7.out hb8)
                        have Y8 := Lib.hid (blk_below Y7.out hb8)
                        have H9 : Hid ((w8.alloc (.cells #[.int .i64 xv, .int .i64 yv] 75)).heap[w8.heap.size]? = some (.cells #[.int .i64 xv, .int .i64 yv] 75 (0, 0))) := heap_new w8 _ _
                        have BQ : Hid (w.heap.size + 2 ≤ w8.heap.size) := by have h8 := blt G8.out; show _ ≤ _; omega
                        have bq := BQ.out
                        clear hb8 HS hmem hOLD hNEW A7 G7 X7 Y7 R7 V7 H7
                        go_wp2_with (at_builtin; refine wpList_append_own _ rfl _ _ 46 rfl (w.heap.size + 2) 75 i0 _ 2 16 Tryd.underlying46 hi0 hz0 hz1 hz2 rfl (by decide) (.slice A m.length c) m.length (prCells m) rfl (own_below R8.out (ext_world w8 _)) ⟨w8.heap.size, 0, none⟩ 1 1 [.int .i64 xv, .int .i64 yv] rfl rfl ?c1 ?c2 ?c3 ?c4 ?c5 ?_)
                        case c1 =>
                          intro j u hj
                          rcases j with _ | _ | j
                          · simp at hj; subst hj; rw [addr_add]; exact bcell H9.out 0
                          · simp at hj; subst hj; rw [addr_add]; exact bcell H9.out 1
                          · simp at hj
                        case c2 => intro u hu; simp at hu; rcases hu with rfl | rfl <;> rfl
                        case c3 => unfold maxLen; omega
                        case c4 => omega
                        case c5 => simp; omega
                        intro v' w9 hown hgrow hform
                        obtain ⟨A', c', rfl⟩ := own_len hown
                        have R9 : Hid (PRow w9 (w.heap.size + 2) A' c' (m ++ [(xv, yv)])) := by
                          show World.ownsRow _ _ _ _ _ _ _
                          rw [List.length_append, prCells_append]
                          exact hown
                        have RO := own_below R8.out (ext_world w8 (.cells #[.int .i64 xv, .int .i64 yv] 75))
                        have A9 := Lib.hid (blk_grown RO hgrow (blk_below A8.out (ext_world w8 _)) (by decide))
                        have G9 := Lib.hid (blk_grown RO hgrow (blk_below G8.out (ext_world w8 _)) (by decide))
                        have X9 := Lib.hid (blk_grown RO hgrow (blk_below X8.out (ext_world w8 _)) (by decide))
                        have Y9 := Lib.hid (blk_grown RO hgrow (blk_below Y8.out (ext_world w8 _)) (by decide))
                        have V9 : Hid (Below w.heap.size w w9) := (V8.out.alloc V8.out.size _).grown hgrow (by simp; omega) (fun g hg => by have := (RO.lt g hg).1; omega)
                        clear hown hgrow hform RO A8 G8 X8 Y8 R8 V8 H8 H9 HB8 z0 z1
                        go_wp2_with fail
                        go_roundw
                        case rel => exact ⟨m ++ [(xv, yv)], A', c', k + 1, by omega, by rw [List.length_append]; rfl, by go_num, R9.out, HN.out, V9.out, A9.out, G9.out, X9.out, Y9.out⟩
                        case measure => simp [intOf]; omega
                  · have HF : Hid (¬ AG a b true) := KBAD.out fun h => hjk (HKJ.out.1 h rfl)
                    have hjkI : ((2 * (j : Int)) != (kk : Int)) = true := by have := HRK.out; rw [bne_iff_ne]; omega
                    clear HKJ hjk hOT
                    go_wp2_with fail
                    exact bodyPost_ret (v := .tuple #[.slice none 0 0, .bool false]) (by simp [results, Tryd.results22, go_sem]) rfl (Or.inr ⟨HF.out, rfl, HV.out⟩)
                | false =>
                  have hKG : Hid (KeyGood a b false ((xn : Int), (yn : Int)) k) := HKJ.out.2 fun h => (by cases h)
                  clear HKJ
                  have hPA : Hid (pairAt a b ((xn : Int), (yn : Int)) k = (X.kids.getD k 0, Y.kids.getD (jj) 0)) := by
                    show _ = _
                    unfold pairAt
                    rw [hOT.out]
                    simp only [Option.getD_some]
                    rw [HXN.out, HYN.out]
                  have hRP : Hid (RchR a b false (pairAt a b ((xn : Int), (yn : Int)) k)) := HRX.out.kid (KDX.out hKG.out).1
                  have hOLD : Hid (pairAt a b ((xn : Int), (yn : Int)) k ∈ m → PairsIn a b false l ((xn : Int), (yn : Int)) m (k + 1)) := fun h => HPI.out.old hKG.out h
                  have hNEW : Hid (pairAt a b ((xn : Int), (yn : Int)) k ∉ m → PairsIn a b false l ((xn : Int), (yn : Int)) (m ++ [pairAt a b ((xn : Int), (yn : Int)) k]) (k + 1)) := fun h => HPI.out.new hKG.out hRP.out h
                  rw [hPA.out] at hOLD hNEW
                  obtain ⟨bx, ox, hkx, hbx, hcx, rx0, rx1⟩ := KIDX.out k hkk
                  obtain ⟨by_, oy, hky, hby, hcy, ry0, ry1⟩ := KIDY.out (jj) hJl
                  replace hcx := (HV.out.cell (p := ⟨bx, _, none⟩) hbx).trans hcx
                  replace hcy := (HV.out.cell (p := ⟨by_, _, none⟩) hby).trans hcy
                  generalize X.kids.getD k 0 = xv at hcx rx0 rx1 hOLD hNEW
                  generalize Y.kids.getD (jj) 0 = yv at hcy ry0 ry1 hOLD hNEW
                  have w2 := bcell HQX.out 2
                  have t2 := bcell HQY.out 2
                  rw [hkx] at w2
                  rw [hky] at t2
                  have hjJ : ((jj : Nat) : Int) < (Y.kids.length : Int) := by have := HKL.out; omega
                  clear hkx hky hPA hKG hOT HPI KDX KBAD KIDX KIDY rx0 rx1 ry0 ry1
                  go_wp2_with fail
                  go_region_held3 (fun w' => w'.cell? ⟨qx, 2, none⟩ = some (.slice (some ⟨bx, ox, none⟩) X.kids.length X.kc) ∧ w'.cell? ⟨qy, 2, none⟩ = some (.slice (some ⟨by_, oy, none⟩) Y.kids.length Y.kc) ∧ w'.cell? ⟨bx, ox + k, none⟩ = some (.int .i64 xv) ∧ w'.cell? ⟨by_, oy + (jj), none⟩ = some (.int .i64 yv))
                    (go_keep)
                    (fail)
                  all_goals
                    have B7 : Hid (Below w6.heap.size w6 (w6.alloc (.cells #[.int .i64 xv, .int .i64 yv] 75)).drew) := dr (ext_world w6 _) 1
                    have H7 : Hid ((w6.alloc (.cells #[.int .i64 xv, .int .i64 yv] 75)).drew.heap[w6.heap.size]? = some (.cells #[.int .i64 xv, .int .i64 yv] 75 (0, 0))) := heap_new w6 _ _
                    generalize (w6.alloc (.cells #[.int .i64 xv, .int .i64 yv] 75)).drew = w7 at B7 H7 ⊢
                    have V7 : Hid (Below w.heap.size w w7) := HV.out.trans (B7.out.mono HV.out.size)
                    have A7 := Lib.hid (blk_below HGA.out B7.out)
                    have G7 := Lib.hid (blk_below HGB.out B7.out)
                    have X7 := Lib.hid (blk_below HQX.out B7.out)
                    have Y7 := Lib.hid (blk_below HQY.out B7.out)
                    have R7 := Lib.hid (HROW.out.below B7.out)
                    have z0 := bcell H7.out 0
                    have z1 := bcell H7.out 1
                    generalize w6.heap.size = q15 at H7 z0 z1 ⊢
                    clear w2 t2 hcx hcy HGA HGB HQX HQY HROW HV B7
                    have HS := Lib.hid (has_any A c m (xv, yv) w7 R7.out.prrow (by omega))
                    unfold pairV at HS
                    simp only at HS
                    go_wp2_with fail
                    by_cases hmem : (xv, yv) ∈ m
                    · rw [decide_eq_true hmem] at HS
                      have HN := Lib.hid (hOLD.out hmem)
                      refine HS.out.mono ?_
                      rintro e w8 ⟨rfl, hb8⟩
                      have HB8 := Lib.hid hb8
                      clear hb8 HS hmem hOLD hNEW
                      go_wp2_with fail
                      go_roundw
                      case rel => exact ⟨m, A, c, k + 1, by omega, rfl, by go_num, R7.out.below HB8.out, HN.out, V7.out.trans (HB8.out.mono V7.out.size), blk_below A7.out HB8.out, blk_below G7.out HB8.out, blk_below X7.out HB8.out, blk_below Y7.out HB8.out⟩
                      case measure => simp [intOf]; omega
                    · rw [decide_eq_false hmem] at HS
                      have HN := Lib.hid (hNEW.out hmem)
                      refine HS.out.mono ?_
                      rintro e w8 ⟨rfl, hb8⟩
                      have HB8 := Lib.hid hb8
                      have H8 := Lib.hid (blk_below H7.out hb8)
                      replace z0 := bcell H8.out 0
                      replace z1 := bcell H8.out 1
                      have R8 := Lib.hid (R7.out.below hb8)
                      have V8 : Hid (Below w.heap.size w w8) := V7.out.trans (hb8.mono V7.out.size)
                      have A8 := Lib.hid (blk_below A7.out hb8)
                      have G8 := Lib.hid (blk_below G7.out hb8)
                      have X8 := Lib.hid (blk_below X7.out hb8)
                      have Y8 := Lib.hid (blk_below Y7.out hb8)
                      have H9 : Hid ((w8.alloc (.cells #[.int .i64 xv, .int .i64 yv] 75)).heap[w8.heap.size]? = some (.cells #[.int .i64 xv, .int .i64 yv] 75 (0, 0))) := heap_new w8 _ _
                      have BQ : Hid (w.heap.size + 2 ≤ w8.heap.size) := by have h8 := blt G8.out; show _ ≤ _; omega
                      have bq := BQ.out
                      clear hb8 HS hmem hOLD hNEW A7 G7 X7 Y7 R7 V7 H7
                      go_wp2_with (at_builtin; refine wpList_append_own _ rfl _ _ 46 rfl (w.heap.size + 2) 75 i0 _ 2 16 Tryd.underlying46 hi0 hz0 hz1 hz2 rfl (by decide) (.slice A m.length c) m.length (prCells m) rfl (own_below R8.out (ext_world w8 _)) ⟨w8.heap.size, 0, none⟩ 1 1 [.int .i64 xv, .int .i64 yv] rfl rfl ?c1 ?c2 ?c3 ?c4 ?c5 ?_)
                      case c1 =>
                        intro j u hj
                        rcases j with _ | _ | j
                        · simp at hj; subst hj; rw [addr_add]; exact bcell H9.out 0
                        · simp at hj; subst hj; rw [addr_add]; exact bcell H9.out 1
                        · simp at hj
                      case c2 => intro u hu; simp at hu; rcases hu with rfl | rfl <;> rfl
                      case c3 => unfold maxLen; omega
                      case c4 => omega
                      case c5 => simp; omega
                      intro v' w9 hown hgrow hform
                      obtain ⟨A', c', rfl⟩ := own_len hown
                      have R9 : Hid (PRow w9 (w.heap.size + 2) A' c' (m ++ [(xv, yv)])) := by
                        show World.ownsRow _ _ _ _ _ _ _
                        rw [List.length_append, prCells_append]
                        exact hown
                      have RO := own_below R8.out (ext_world w8 (.cells #[.int .i64 xv, .int .i64 yv] 75))
                      have A9 := Lib.hid (blk_grown RO hgrow (blk_below A8.out (ext_world w8 _)) (by decide))
                      have G9 := Lib.hid (blk_grown RO hgrow (blk_below G8.out (ext_world w8 _)) (by decide))
                      have X9 := Lib.hid (blk_grown RO hgrow (blk_below X8.out (ext_world w8 _)) (by decide))
                      have Y9 := Lib.hid (blk_grown RO hgrow (blk_below Y8.out (ext_world w8 _)) (by decide))
                      have V9 : Hid (Below w.heap.size w w9) := (V8.out.alloc V8.out.size _).grown hgrow (by simp; omega) (fun g hg => by have := (RO.lt g hg).1; omega)
                      clear hown hgrow hform RO A8 G8 X8 Y8 R8 V8 H8 H9 HB8 z0 z1
                      go_wp2_with fail
                      go_roundw
                      case rel => exact ⟨m ++ [(xv, yv)], A', c', k + 1, by omega, by rw [List.length_append]; rfl, by go_num, R9.out, HN.out, V9.out, A9.out, G9.out, X9.out, Y9.out⟩
                      case measure => simp [intOf]; omega
            · have h6I : (X.kind == 6) = false := by rw [beq_eq_false_iff_ne]; exact h6
              have hKG : Hid (KeyGood a b ord ((xn : Int), (yn : Int)) k) := fun h => absurd (by have h9 := h; simp only at h9; rw [HXN.out] at h9; exact h9) h6
              have hOT : Hid (otherIx a b ((xn : Int), (yn : Int)) k = some k) := by
                show _ = _
                unfold otherIx
                simp only
                rw [HXN.out, if_neg h6]
              have hJl := hkk
              have HV := hv
              have HGA := ha
              have HGB := hb
              have HQX := hqx'
              have HQY := hqy'
              have HROW := hrow
              have HPI := hPI
              clear hv ha hb hqx' hqy' hrow hPI h6 v2 u2
              have hPA : Hid (pairAt a b ((xn : Int), (yn : Int)) k = (X.kids.getD k 0, Y.kids.getD (k) 0)) := by
                show _ = _
                unfold pairAt
                rw [hOT.out]
                simp only [Option.getD_some]
                rw [HXN.out, HYN.out]
              have hRP : Hid (RchR a b ord (pairAt a b ((xn : Int), (yn : Int)) k)) := HRX.out.kid (KDX.out hKG.out).1
              have hOLD : Hid (pairAt a b ((xn : Int), (yn : Int)) k ∈ m → PairsIn a b ord l ((xn : Int), (yn : Int)) m (k + 1)) := fun h => HPI.out.old hKG.out h
              have hNEW : Hid (pairAt a b ((xn : Int), (yn : Int)) k ∉ m → PairsIn a b ord l ((xn : Int), (yn : Int)) (m ++ [pairAt a b ((xn : Int), (yn : Int)) k]) (k + 1)) := fun h => HPI.out.new hKG.out hRP.out h
              rw [hPA.out] at hOLD hNEW
              obtain ⟨bx, ox, hkx, hbx, hcx, rx0, rx1⟩ := KIDX.out k hkk
              obtain ⟨by_, oy, hky, hby, hcy, ry0, ry1⟩ := KIDY.out (k) hJl
              replace hcx := (HV.out.cell (p := ⟨bx, _, none⟩) hbx).trans hcx
              replace hcy := (HV.out.cell (p := ⟨by_, _, none⟩) hby).trans hcy
              generalize X.kids.getD k 0 = xv at hcx rx0 rx1 hOLD hNEW
              generalize Y.kids.getD (k) 0 = yv at hcy ry0 ry1 hOLD hNEW
              have w2 := bcell HQX.out 2
              have t2 := bcell HQY.out 2
              rw [hkx] at w2
              rw [hky] at t2
              have hjJ : ((k : Nat) : Int) < (Y.kids.length : Int) := by have := HKL.out; omega
              clear hkx hky hPA hKG hOT HPI KDX KBAD KIDX KIDY rx0 rx1 ry0 ry1
              go_wp2_with fail
              go_region_held3 (fun w' => w'.cell? ⟨qx, 2, none⟩ = some (.slice (some ⟨bx, ox, none⟩) X.kids.length X.kc) ∧ w'.cell? ⟨qy, 2, none⟩ = some (.slice (some ⟨by_, oy, none⟩) Y.kids.length Y.kc) ∧ w'.cell? ⟨bx, ox + k, none⟩ = some (.int .i64 xv) ∧ w'.cell? ⟨by_, oy + (k), none⟩ = some (.int .i64 yv))
                (go_keep)
                (fail)
              all_goals
                have B7 : Hid (Below wr.heap.size wr (wr.alloc (.cells #[.int .i64 xv, .int .i64 yv] 75)).drew) := dr (ext_world wr _) 1
                have H7 : Hid ((wr.alloc (.cells #[.int .i64 xv, .int .i64 yv] 75)).drew.heap[wr.heap.size]? = some (.cells #[.int .i64 xv, .int .i64 yv] 75 (0, 0))) := heap_new wr _ _
                generalize (wr.alloc (.cells #[.int .i64 xv, .int .i64 yv] 75)).drew = w7 at B7 H7 ⊢
                have V7 : Hid (Below w.heap.size w w7) := HV.out.trans (B7.out.mono HV.out.size)
                have A7 := Lib.hid (blk_below HGA.out B7.out)
                have G7 := Lib.hid (blk_below HGB.out B7.out)
                have X7 := Lib.hid (blk_below HQX.out B7.out)
                have Y7 := Lib.hid (blk_below HQY.out B7.out)
                have R7 := Lib.hid (HROW.out.below B7.out)
                have z0 := bcell H7.out 0
                have z1 := bcell H7.out 1
                generalize wr.heap.size = q15 at H7 z0 z1 ⊢
                clear w2 t2 hcx hcy HGA HGB HQX HQY HROW HV B7
                have HS := Lib.hid (has_any A c m (xv, yv) w7 R7.out.prrow (by omega))
                unfold pairV at HS
                simp only at HS
                go_wp2_with fail
                by_cases hmem : (xv, yv) ∈ m
                · rw [decide_eq_true hmem] at HS
                  have HN := Lib.hid (hOLD.out hmem)
                  refine HS.out.mono ?_
                  rintro e w8 ⟨rfl, hb8⟩
                  have HB8 := Lib.hid hb8
                  clear hb8 HS hmem hOLD hNEW
                  go_wp2_with fail
                  go_roundw
                  case rel => exact ⟨m, A, c, k + 1, by omega, rfl, by go_num, R7.out.below HB8.out, HN.out, V7.out.trans (HB8.out.mono V7.out.size), blk_below A7.out HB8.out, blk_below G7.out HB8.out, blk_below X7.out HB8.out, blk_below Y7.out HB8.out⟩
                  case measure => simp [intOf]; omega
                · rw [decide_eq_false hmem] at HS
                  have HN := Lib.hid (hNEW.out hmem)
                  refine HS.out.mono ?_
                  rintro e w8 ⟨rfl, hb8⟩
                  have HB8 := Lib.hid hb8
                  have H8 := Lib.hid (blk_below H7.out hb8)
                  replace z0 := bcell H8.out 0
                  replace z1 := bcell H8.out 1
                  have R8 := Lib.hid (R7.out.below hb8)
                  have V8 : Hid (Below w.heap.size w w8) := V7.out.trans (hb8.mono V7.out.size)
                  have A8 := Lib.hid (blk_below A7.out hb8)
                  have G8 := Lib.hid (blk_below G7.out hb8)
                  have X8 := Lib.hid (blk_below X7.out hb8)
                  have Y8 := Lib.hid (blk_below Y7.out hb8)
                  have H9 : Hid ((w8.alloc (.cells #[.int .i64 xv, .int .i64 yv] 75)).heap[w8.heap.size]? = some (.cells #[.int .i64 xv, .int .i64 yv] 75 (0, 0))) := heap_new w8 _ _
                  have BQ : Hid (w.heap.size + 2 ≤ w8.heap.size) := by have h8 := blt G8.out; show _ ≤ _; omega
                  have bq := BQ.out
                  clear hb8 HS hmem hOLD hNEW A7 G7 X7 Y7 R7 V7 H7
                  go_wp2_with (at_builtin; refine wpList_append_own _ rfl _ _ 46 rfl (w.heap.size + 2) 75 i0 _ 2 16 Tryd.underlying46 hi0 hz0 hz1 hz2 rfl (by decide) (.slice A m.length c) m.length (prCells m) rfl (own_below R8.out (ext_world w8 _)) ⟨w8.heap.size, 0, none⟩ 1 1 [.int .i64 xv, .int .i64 yv] rfl rfl ?c1 ?c2 ?c3 ?c4 ?c5 ?_)
                  case c1 =>
                    intro j u hj
                    rcases j with _ | _ | j
                    · simp at hj; subst hj; rw [addr_add]; exact bcell H9.out 0
                    · simp at hj; subst hj; rw [addr_add]; exact bcell H9.out 1
                    · simp at hj
                  case c2 => intro u hu; simp at hu; rcases hu with rfl | rfl <;> rfl
                  case c3 => unfold maxLen; omega
                  case c4 => omega
                  case c5 => simp; omega
                  intro v' w9 hown hgrow hform
                  obtain ⟨A', c', rfl⟩ := own_len hown
                  have R9 : Hid (PRow w9 (w.heap.size + 2) A' c' (m ++ [(xv, yv)])) := by
                    show World.ownsRow _ _ _ _ _ _ _
                    rw [List.length_append, prCells_append]
                    exact hown
                  have RO := own_below R8.out (ext_world w8 (.cells #[.int .i64 xv, .int .i64 yv] 75))
                  have A9 := Lib.hid (blk_grown RO hgrow (blk_below A8.out (ext_world w8 _)) (by decide))
                  have G9 := Lib.hid (blk_grown RO hgrow (blk_below G8.out (ext_world w8 _)) (by decide))
                  have X9 := Lib.hid (blk_grown RO hgrow (blk_below X8.out (ext_world w8 _)) (by decide))
                  have Y9 := Lib.hid (blk_grown RO hgrow (blk_below Y8.out (ext_world w8 _)) (by decide))
                  have V9 : Hid (Below w.heap.size w w9) := (V8.out.alloc V8.out.size _).grown hgrow (by simp; omega) (fun g hg => by have := (RO.lt g hg).1; omega)
                  clear hown hgrow hform RO A8 G8 X8 Y8 R8 V8 H8 H9 HB8 z0 z1
                  go_wp2_with fail
                  go_roundw
                  case rel => exact ⟨m ++ [(xv, yv)], A', c', k + 1, by omega, by rw [List.length_append]; rfl, by go_num, R9.out, HN.out, V9.out, A9.out, G9.out, X9.out, Y9.out⟩
                  case measure => simp [intOf]; omega
          · obtain rfl : k = X.kids.length := by omega
            have hkkI : ¬ ((X.kids.length : Int) < (X.kids.length : Int)) := by omega
            have HNI : Hid (PairsInv a b ord m (i + 1)) := PairsIn.done HRA.out HRB.out hI.out hlt HXX.out EQ.out (by rw [HXN.out]; exact hPI.out)
            have hil2 : i + 1 ≤ m.length := by
              obtain ⟨t, ht⟩ := hPI.out.pre
              rw [ht, List.length_append]
              omega
            go_wp2_with fail
            go_roundw
            case rel => exact ⟨m, A, c, i + 1, hil2, rfl, by go_num, hrow.out, HNI.out, hv.out, ha.out, hb.out⟩
            case measure => simp [intOf]; omega
    · obtain rfl : i = l.length := by omega
      have hltI : ¬ ((l.length : Int) < (l.length : Int)) := by omega
      have HALL := Lib.hid hI.out.all
      have HAGG : Hid (AG a b ord) := (ago_iff HRA.out HRB.out).1 HALL.out.2
      go_wp2_with fail
      exact bodyPost_ret (v := .tuple #[.slice A l.length c, .bool true]) (by simp [results, Tryd.results22, go_sem]) rfl (Or.inl ⟨HAGG.out, A, c, l, rfl, hrow.out.prrow, hI.out.nodup, HALL.out.1, by omega, hv.out⟩)
end Go.Proofs.YtpgncjfmaeiaaaaDoor.Is
