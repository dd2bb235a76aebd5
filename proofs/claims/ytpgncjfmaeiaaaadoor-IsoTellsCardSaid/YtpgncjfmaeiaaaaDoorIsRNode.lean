/- The document's side: may a node be, of a graph. Conditions: texts and rows no longer than 10^6. -/
import Derived.Test.YtpgncjfmaeiaaaaDoorIsRTx
import Derived.Test.YtpgncjfmaeiaaaaDoorIsRefA
set_option linter.unusedVariables false
namespace Go.Proofs.YtpgncjfmaeiaaaaDoor.Is
open Go.RowKit
theorem keysOk_bad {ns : List Nd} {k : Int} {l : List Int} {met : List (Int × ByteArray)} (h : scalB (keyAt ns k).1 = false ∨ keyAt ns k ∈ met) : keysOk ns (k :: l) met = false := by
  unfold keysOk
  rcases h with h | h
  · rw [h]; rfl
  · rw [decide_eq_true h, Bool.not_true, Bool.false_and, Bool.and_false]
theorem keysOk_good {ns : List Nd} {k : Int} {l : List Int} {met : List (Int × ByteArray)} (h1 : scalB (keyAt ns k).1 = true) (h2 : keyAt ns k ∉ met) : keysOk ns (k :: l) met = keysOk ns l (met ++ [keyAt ns k]) := by
  rw [keysOk, h1, decide_eq_false h2, Bool.not_false, Bool.true_and, Bool.true_and]
theorem evens_len (l : List Int) : (evens l).length = l.length / 2 := by simp [evens]
theorem evens_getD {l : List Int} {j : Nat} (h : j < l.length / 2) : (evens l).getD j 0 = l.getD (2 * j) 0 := by
  unfold evens
  rw [List.getD_eq_getElem?_getD, List.getElem?_map, List.getElem?_range h]
  rfl
theorem evens_drop {l : List Int} {j : Nat} (h : j < l.length / 2) : (evens l).drop j = l.getD (2 * j) 0 :: (evens l).drop (j + 1) := by
  rw [List.drop_eq_getElem_cons (by rw [evens_len]; exact h), ← evens_getD h, List.getD_eq_getElem?_getD, List.getElem?_eq_getElem (by rw [evens_len]; exact h)]
  rfl
theorem evens_take {l : List Int} {j : Nat} (h : j < l.length / 2) (f : Int → Int × ByteArray) : ((evens l).take (j + 1)).map f = ((evens l).take j).map f ++ [f (l.getD (2 * j) 0)] := by
  rw [List.take_succ_eq_append_getElem (by rw [evens_len]; exact h), List.map_append, ← evens_getD h, List.getD_eq_getElem?_getD, List.getElem?_eq_getElem (by rw [evens_len]; exact h)]
  rfl
theorem evens_met {l : List Int} {j : Nat} (h : j ≤ l.length / 2) (f : Int → Int × ByteArray) (x : Int × ByteArray) : x ∈ ((evens l).take j).map f ↔ ∃ t, t < j ∧ f (l.getD (2 * t) 0) = x := by
  rw [List.mem_map]
  constructor
  · rintro ⟨k, hk, rfl⟩
    obtain ⟨t, ht, e⟩ := List.mem_iff_getElem.1 hk
    rw [List.length_take, evens_len] at ht
    refine ⟨t, by omega, ?_⟩
    rw [← evens_getD (by omega), ← e, List.getElem_take, List.getD_eq_getElem?_getD, List.getElem?_eq_getElem (by rw [evens_len]; omega)]
    rfl
  · rintro ⟨t, ht, rfl⟩
    refine ⟨l.getD (2 * t) 0, ?_, rfl⟩
    rw [List.mem_iff_getElem]
    refine ⟨t, by rw [List.length_take, evens_len]; omega, ?_⟩
    rw [List.getElem_take, ← evens_getD (by omega), List.getD_eq_getElem?_getD, List.getElem?_eq_getElem (by rw [evens_len]; omega)]
    rfl
set_option maxRecDepth 100000 in
set_option maxHeartbeats 6400000 in
theorem rnode_any (g : Gv) (n : Nd) (w : World) (G : GrIn w g) (K : KidsAt w n) (hn : n.txt.size ≤ 1000000) (hl : n.kids.length ≤ 1000000) (hns : g.ns.length ≤ 4096) :
    Calls Tryd.prog 31 #[g.val, n.val] w (BoolPost (nodeB g.ns n) w) := by
  have TX : Hid (∀ W, Below w.heap.size w W → Calls Tryd.prog 43 #[.int .i64 n.kind, .string n.txt] W fun e w' => e = .returned (.bool (textB n.kind n.txt)) ∧ Hid (Below W.heap.size W w')) := fun W hb => rtxt_any _ _ _ hn
  have HG := Lib.hid G
  have HK := Lib.hid K
  obtain ⟨A, c, ns, root⟩ := g
  obtain ⟨kind, txt, kids, ka, kc⟩ := n
  obtain ⟨ES, hES⟩ : ∃ ES, ES = evens kids := ⟨_, rfl⟩
  have hkN : keysN ⟨kind, txt, kids, ka, kc⟩ = if kind = 6 then ES else [] := by rw [hES]; rfl
  unfold nodeB Nd.val Gv.val
  rw [hkN]
  simp only at *
  clear G K hkN
  generalize textB kind txt = tb at TX ⊢
  obtain ⟨L, hL⟩ : ∃ L, L = ns.length := ⟨_, rfl⟩
  obtain ⟨KL, hKL⟩ : ∃ KL, KL = kids.length := ⟨_, rfl⟩
  rw [← hL, ← hKL]
  rw [← hKL] at hl
  rw [← hL] at hns
  have HL := Lib.hid hL
  have HKL := Lib.hid hKL
  have HES := Lib.hid hES
  clear hL hKL hES
  have hv : Hid (Below w.heap.size w ((w.alloc (.cells #[.slice A L c, .int .i64 root] 24)).alloc (.cells #[.int .i64 kind, .string txt, .slice ka KL kc] 38))) := (ext_world w _).alloc (by simp) _
  have hs1 : (w.alloc (.cells #[.slice A L c, .int .i64 root] 24)).heap.size = w.heap.size + 1 := by simp
  have h9 := heap_new (w.alloc (.cells #[.slice A L c, .int .i64 root] 24)) #[.int .i64 kind, .string txt, .slice ka KL kc] 38
  rw [hs1] at h9
  have n0 := bcell h9 0
  have n1 := bcell h9 1
  have n2 := bcell h9 2
  have g0 : ((w.alloc (.cells #[.slice A L c, .int .i64 root] 24)).alloc (.cells #[.int .i64 kind, .string txt, .slice ka KL kc] 38)).cell? ⟨w.heap.size, 0, none⟩ = some (.slice A L c) := (Below.cell (ext_world _ _) (p := ⟨w.heap.size, 0, none⟩) (by simp)).trans (bcell (heap_new w _ _) 0)
  clear h9 hs1
  obtain ⟨R, hR⟩ : ∃ R, R = (decide (1 ≤ kind) && (decide (kind ≤ 6) && (tb && (!(scalB kind && decide (0 < KL)) && (!(decide (kind = 6) && decide (KL % 2 = 1)) && (!(kids.any (kidBad L)) && keysOk ns (if kind = 6 then ES else []) [])))))) := ⟨_, rfl⟩
  rw [← hR]
  obtain ⟨sc, hsc⟩ : ∃ sc, sc = scalB kind := ⟨_, rfl⟩
  have SCK : Hid (∀ W, Calls Tryd.prog 44 #[.int .i64 kind] W fun e w' => e = .returned (.bool sc) ∧ W = w') := by rw [hsc]; exact fun W => rscalar_any kind W
  rw [← hsc] at hR
  have HSC := Lib.hid hsc
  clear hsc
  by_cases h1 : 1 ≤ kind
  case neg =>
    have h1I : kind < 1 := by omega
    have HF : Hid (R = false) := by
      show _ = _
      rw [hR, decide_eq_false h1, Bool.false_and]
    clear hR
    go_enter Tryd.func31, Tryd.ntmps31
    go_wp2_with (first | (go_at_call 43; (with_reducible refine (TX.out _ hv.out).mono ?_); rintro e wq ⟨rfl, hb⟩; replace g0 := (hb.out.cell (p := ⟨w.heap.size, 0, none⟩) (block_lt_of_cell g0)).trans g0; replace n0 := (hb.out.cell (p := ⟨w.heap.size + 1, 0, none⟩) (block_lt_of_cell n0)).trans n0; replace n1 := (hb.out.cell (p := ⟨w.heap.size + 1, 1, none⟩) (block_lt_of_cell n1)).trans n1; replace n2 := (hb.out.cell (p := ⟨w.heap.size + 1, 2, none⟩) (block_lt_of_cell n2)).trans n2; replace hv := Lib.hid (hv.out.trans (hb.out.mono hv.out.size)); clear hb) | (go_at_call 44; (with_reducible refine (SCK.out _).mono ?_); rintro e wq2 ⟨rfl, rfl⟩))
    go_ret
    exact ⟨by rw [HF.out]; rfl, hv.out⟩
  by_cases h6 : kind ≤ 6
  case neg =>
    have h1I : ¬ kind < 1 := by omega
    have h6I : 6 < kind := by omega
    have HF : Hid (R = false) := by
      show _ = _
      rw [hR, decide_eq_false h6, Bool.false_and, Bool.and_false]
    clear hR
    go_enter Tryd.func31, Tryd.ntmps31
    go_wp2_with (first | (go_at_call 43; (with_reducible refine (TX.out _ hv.out).mono ?_); rintro e wq ⟨rfl, hb⟩; replace g0 := (hb.out.cell (p := ⟨w.heap.size, 0, none⟩) (block_lt_of_cell g0)).trans g0; replace n0 := (hb.out.cell (p := ⟨w.heap.size + 1, 0, none⟩) (block_lt_of_cell n0)).trans n0; replace n1 := (hb.out.cell (p := ⟨w.heap.size + 1, 1, none⟩) (block_lt_of_cell n1)).trans n1; replace n2 := (hb.out.cell (p := ⟨w.heap.size + 1, 2, none⟩) (block_lt_of_cell n2)).trans n2; replace hv := Lib.hid (hv.out.trans (hb.out.mono hv.out.size)); clear hb) | (go_at_call 44; (with_reducible refine (SCK.out _).mono ?_); rintro e wq2 ⟨rfl, rfl⟩))
    go_ret
    exact ⟨by rw [HF.out]; rfl, hv.out⟩
  have h1I : ¬ kind < 1 := by omega
  have h6I : ¬ 6 < kind := by omega
  rw [decide_eq_true h1, decide_eq_true h6, Bool.true_and, Bool.true_and] at hR
  clear h1 h6
  cases tb
  case false =>
    have HF : Hid (R = false) := by
      show _ = _
      rw [hR, Bool.false_and]
    clear hR
    go_enter Tryd.func31, Tryd.ntmps31
    go_wp2_with (first | (go_at_call 43; (with_reducible refine (TX.out _ hv.out).mono ?_); rintro e wq ⟨rfl, hb⟩; replace g0 := (hb.out.cell (p := ⟨w.heap.size, 0, none⟩) (block_lt_of_cell g0)).trans g0; replace n0 := (hb.out.cell (p := ⟨w.heap.size + 1, 0, none⟩) (block_lt_of_cell n0)).trans n0; replace n1 := (hb.out.cell (p := ⟨w.heap.size + 1, 1, none⟩) (block_lt_of_cell n1)).trans n1; replace n2 := (hb.out.cell (p := ⟨w.heap.size + 1, 2, none⟩) (block_lt_of_cell n2)).trans n2; replace hv := Lib.hid (hv.out.trans (hb.out.mono hv.out.size)); clear hb) | (go_at_call 44; (with_reducible refine (SCK.out _).mono ?_); rintro e wq2 ⟨rfl, rfl⟩))
    go_ret
    exact ⟨by rw [HF.out]; rfl, hv.out⟩
  rw [Bool.true_and] at hR
  by_cases hA : sc = true ∧ 0 < KL
  case pos =>
    obtain ⟨rfl, hk0⟩ := hA
    have hk0I : (0 : Int) < (KL : Int) := by omega
    have HF : Hid (R = false) := by
      show _ = _
      rw [hR, decide_eq_true hk0]
      rfl
    clear hR
    go_enter Tryd.func31, Tryd.ntmps31
    go_wp2_with (first | (go_at_call 43; (with_reducible refine (TX.out _ hv.out).mono ?_); rintro e wq ⟨rfl, hb⟩; replace g0 := (hb.out.cell (p := ⟨w.heap.size, 0, none⟩) (block_lt_of_cell g0)).trans g0; replace n0 := (hb.out.cell (p := ⟨w.heap.size + 1, 0, none⟩) (block_lt_of_cell n0)).trans n0; replace n1 := (hb.out.cell (p := ⟨w.heap.size + 1, 1, none⟩) (block_lt_of_cell n1)).trans n1; replace n2 := (hb.out.cell (p := ⟨w.heap.size + 1, 2, none⟩) (block_lt_of_cell n2)).trans n2; replace hv := Lib.hid (hv.out.trans (hb.out.mono hv.out.size)); clear hb) | (go_at_call 44; (with_reducible refine (SCK.out _).mono ?_); rintro e wq2 ⟨rfl, rfl⟩))
    go_ret
    exact ⟨by rw [HF.out]; rfl, hv.out⟩
  rw [show (!(sc && decide (0 < KL))) = true from by
    cases sc with
    | false => rfl
    | true => rw [decide_eq_false (fun h => hA ⟨rfl, h⟩)]; rfl, Bool.true_and] at hR
  by_cases hB : kind = 6 ∧ KL % 2 = 1
  case pos =>
    obtain ⟨h6, hk2⟩ := hB
    have hsc : sc = false := by rw [HSC.out, h6]; rfl
    subst hsc
    have h6J : (kind == 6) = true := by rw [beq_iff_eq]; exact h6
    have hrm : ((KL : Int)).tmod 2 = 1 := by rw [Int.tmod_eq_emod_of_nonneg (by omega)]; omega
    have HF : Hid (R = false) := by
      show _ = _
      rw [hR, decide_eq_true h6, decide_eq_true hk2]
      rfl
    clear hR h6 hk2
    go_enter Tryd.func31, Tryd.ntmps31
    go_wp2_with (first | (go_at_call 43; (with_reducible refine (TX.out _ hv.out).mono ?_); rintro e wq ⟨rfl, hb⟩; replace g0 := (hb.out.cell (p := ⟨w.heap.size, 0, none⟩) (block_lt_of_cell g0)).trans g0; replace n0 := (hb.out.cell (p := ⟨w.heap.size + 1, 0, none⟩) (block_lt_of_cell n0)).trans n0; replace n1 := (hb.out.cell (p := ⟨w.heap.size + 1, 1, none⟩) (block_lt_of_cell n1)).trans n1; replace n2 := (hb.out.cell (p := ⟨w.heap.size + 1, 2, none⟩) (block_lt_of_cell n2)).trans n2; replace hv := Lib.hid (hv.out.trans (hb.out.mono hv.out.size)); clear hb) | (go_at_call 44; (with_reducible refine (SCK.out _).mono ?_); rintro e wq2 ⟨rfl, rfl⟩))
    go_ret
    exact ⟨by rw [HF.out]; rfl, hv.out⟩
  rw [show (!(decide (kind = 6) && decide (KL % 2 = 1))) = true from by
    by_cases h6 : kind = 6
    · rw [decide_eq_true h6, decide_eq_false (fun h => hB ⟨h6, h⟩)]; rfl
    · rw [decide_eq_false h6]; rfl, Bool.true_and] at hR
  have HR := Lib.hid hR
  clear hR
  by_cases h6 : kind = 6
  case pos =>
    have hsc : sc = false := by rw [HSC.out, h6]; rfl
    subst hsc
    have h6J : (kind == 6) = true := by rw [beq_iff_eq]; exact h6
    have hev : ¬ (KL % 2 = 1) := fun h => hB ⟨h6, h⟩
    have hrm : ((KL : Int)).tmod 2 = 0 := by rw [Int.tmod_eq_emod_of_nonneg (by omega)]; omega
    have HEV : Hid (KL % 2 = 0) := by show _ = _; omega
    have H6 := Lib.hid h6
    clear h6 hA hB hev
    go_enter Tryd.func31, Tryd.ntmps31
    go_wp2_with (first | (go_at_call 43; (with_reducible refine (TX.out _ hv.out).mono ?_); rintro e wq ⟨rfl, hb⟩; replace g0 := (hb.out.cell (p := ⟨w.heap.size, 0, none⟩) (block_lt_of_cell g0)).trans g0; replace n0 := (hb.out.cell (p := ⟨w.heap.size + 1, 0, none⟩) (block_lt_of_cell n0)).trans n0; replace n1 := (hb.out.cell (p := ⟨w.heap.size + 1, 1, none⟩) (block_lt_of_cell n1)).trans n1; replace n2 := (hb.out.cell (p := ⟨w.heap.size + 1, 2, none⟩) (block_lt_of_cell n2)).trans n2; replace hv := Lib.hid (hv.out.trans (hb.out.mono hv.out.size)); clear hb) | (go_at_call 44; (with_reducible refine (SCK.out _).mono ?_); rintro e wq2 ⟨rfl, rfl⟩))
    go_loopw [5] (fun v wr => ∃ i : Nat, i ≤ KL ∧ v = .int .i64 (i : Nat) ∧ Hid (∀ j, j < i → kidBad L (kids.getD j 0) = false) ∧ Hid (Below w.heap.size w wr) ∧ wr.cell? ⟨w.heap.size, 0, none⟩ = some (.slice A L c) ∧ wr.cell? ⟨w.heap.size + 1, 0, none⟩ = some (.int .i64 kind) ∧ wr.cell? ⟨w.heap.size + 1, 2, none⟩ = some (.slice ka KL kc)) (fun v _ => KL - (intOf v).toNat)
    case atStart => exact ⟨0, Nat.zero_le _, rfl, fun j hj => absurd hj (Nat.not_lt_zero _), hv.out, g0, n0, n2⟩
    case round =>
      clear g0 n0 n1 n2 hv
      obtain ⟨i, hi, rfl, hok, hv, g0, n0, n2⟩ := hrel
      by_cases hlt : i < KL
      · have hltI : (i : Int) < (KL : Int) := by omega
        obtain ⟨bk, ok, hka, hbk, hkc⟩ := (HK.out.below hv.out).get i (by rw [← HKL.out]; exact hlt)
        simp only at hka hkc
        have HKA := Lib.hid hka
        have HBAD : Hid (kidBad L (kids.getD i 0) = true → kids.any (kidBad L) = true) := fun h => any_some (by rw [← HKL.out]; exact hlt) h
        have HNX : Hid (kidBad L (kids.getD i 0) = false → ∀ j, j < i + 1 → kidBad L (kids.getD j 0) = false) := fun h j hj => by
          rcases Nat.lt_succ_iff_lt_or_eq.1 hj with e | e
          · exact hok.out j e
          · rw [e]; exact h
        generalize kids.getD i 0 = k at hkc HBAD HNX
        rw [hka] at n2
        clear hka
        by_cases k1 : k < 0
        · have HF : Hid (R = false) := by
            show _ = _
            rw [HR.out, HBAD.out (by unfold kidBad; rw [decide_eq_true k1]; rfl)]
            rfl
          clear HBAD HNX
          go_wp2_with fail
          go_quiet (fail)
          go_wp2_with fail
          go_ret
          exact ⟨by rw [HF.out]; rfl, dr hv.out _⟩
        · by_cases k2 : (L : Int) ≤ k
          · have HF : Hid (R = false) := by
              show _ = _
              rw [HR.out, HBAD.out (by unfold kidBad; rw [decide_eq_true k2, Bool.or_true])]
              rfl
            have k1I : ¬ (k < 0) := k1
            have k2I : (L : Int) ≤ k := k2
            clear HBAD HNX k1 k2
            go_wp2_with fail
            go_quiet (fail)
            go_wp2_with fail
            go_ret
            exact ⟨by rw [HF.out]; rfl, dr hv.out _⟩
          · have HN2 := Lib.hid (HNX.out (by unfold kidBad; rw [decide_eq_false k1, decide_eq_false k2]; rfl))
            have k1I : ¬ (k < 0) := k1
            have k2I : ¬ ((L : Int) ≤ k) := k2
            clear HBAD HNX k1 k2
            go_wp2_with fail
            go_quiet (fail)
            go_wp2_with fail
            go_roundw
            case rel => exact ⟨i + 1, by omega, by go_num, HN2.out, dr hv.out _, g0, n0, by rw [HKA.out]; exact n2⟩
            case measure => simp [intOf]; omega
      · obtain rfl : i = KL := by omega
        have HAN : Hid (kids.any (kidBad L) = false) := any_none (fun j hj => hok.out j (by rw [HKL.out]; exact hj))
        have HR2 : Hid (R = keysOk ns ES []) := by
          show _ = _
          rw [HR.out, HAN.out, if_pos H6.out]
          rfl
        have HRG : Hid (∀ t, t < i → 0 ≤ kids.getD t 0 ∧ kids.getD t 0 < L) := fun t ht => by
          have h9 := hok.out t ht
          unfold kidBad at h9
          simp only [Bool.or_eq_false_iff, decide_eq_false_iff_not] at h9
          omega
        clear HAN hok
        go_wp2_with fail
        go_loopw [6] (fun v wr => ∃ j : Nat, j ≤ i / 2 ∧ v = .int .i64 ((2 * j : Nat) : Int) ∧ Hid (R = keysOk ns (ES.drop j) ((ES.take j).map (keyAt ns))) ∧ Hid (Below w.heap.size w wr) ∧ wr.cell? ⟨w.heap.size, 0, none⟩ = some (.slice A L c) ∧ wr.cell? ⟨w.heap.size + 1, 0, none⟩ = some (.int .i64 kind) ∧ wr.cell? ⟨w.heap.size + 1, 2, none⟩ = some (.slice ka i kc)) (fun v _ => i - (intOf v).toNat)
        case atStart => exact ⟨0, Nat.zero_le _, rfl, HR2.out, hv.out, g0, n0, n2⟩
        case round =>
          clear g0 n0 n2 hv
          obtain ⟨j, hj, rfl, hko, hv, g0, n0, n2⟩ := hrel
          by_cases hlt2 : j < i / 2
          · have hltI2 : (2 * (j : Int)) < (i : Int) := by omega
            have ht1 : (2 * (j : Int)).toNat = 2 * j := by omega
            have ht5 : (0 : Int) ≤ 2 * (j : Int) := by omega
            obtain ⟨bk, ok, hka, hbk, hkc⟩ := (HK.out.below hv.out).get (2 * j) (by rw [← HKL.out]; omega)
            simp only at hka hkc
            have hkr := HRG.out (2 * j) (by omega)
            have HDR : Hid (R = keysOk ns (kids.getD (2 * j) 0 :: ES.drop (j + 1)) ((ES.take j).map (keyAt ns))) := by
              show _ = _
              rw [hko.out, HES.out, evens_drop (by rw [← HKL.out]; exact hlt2)]
            have HTK : Hid ((ES.take (j + 1)).map (keyAt ns) = (ES.take j).map (keyAt ns) ++ [keyAt ns (kids.getD (2 * j) 0)]) := by
              show _ = _
              rw [HES.out, evens_take (by rw [← HKL.out]; exact hlt2)]
            have HMT : Hid (∀ x, x ∈ (ES.take j).map (keyAt ns) ↔ ∃ t, t < j ∧ keyAt ns (kids.getD (2 * t) 0) = x) := fun x => by
              rw [HES.out]
              exact evens_met (by rw [← HKL.out]; omega) _ _
            generalize kids.getD (2 * j) 0 = xa at hkc hkr HDR HTK
            obtain ⟨xn, rfl⟩ : ∃ xn : Nat, xa = (xn : Int) := ⟨xa.toNat, by omega⟩
            have hxn : xn < ns.length := by have := HL.out; omega
            have hxI : (xn : Int) < (L : Int) := by omega
            obtain ⟨bg, og, hAg, hbg, hg0, hg1, hg2⟩ := (HG.out.below hv.out).get xn hxn
            simp only at hAg hg0 hg1 hg2
            have HKA : Hid (keyAt ns (xn : Int) = ((ns.getD xn nd0).kind, (ns.getD xn nd0).txt)) := rfl
            generalize ns.getD xn nd0 = nd at hg0 hg1 hg2 HKA
            obtain ⟨nk, nt, nkids, nka, nkc⟩ := nd
            simp only at hg0 hg1 hg2 HKA
            generalize nkids.length = nkl at hg2
            have HAG := Lib.hid hAg
            have HKAX := Lib.hid hka
            rw [hAg] at g0
            rw [hka] at n2
            clear hAg hka
            go_wp2_with fail
            go_region_held3 (fun w' => w'.cell? ⟨w.heap.size, 0, none⟩ = some (.slice (some ⟨bg, og, none⟩) L c) ∧ w'.cell? ⟨w.heap.size + 1, 2, none⟩ = some (.slice (some ⟨bk, ok, none⟩) i kc) ∧ w'.cell? ⟨bk, ok + 2 * j, none⟩ = some (.int .i64 (xn : Int)) ∧ w'.cell? ⟨bg, og + xn * 3, none⟩ = some (.int .i64 nk) ∧ w'.cell? ⟨bg, og + xn * 3 + 1, none⟩ = some (.string nt) ∧ w'.cell? ⟨bg, og + xn * 3 + 2, none⟩ = some (.slice nka nkl nkc))
              (go_keep)
              (fail)
            have B5 : Hid (Below wr.heap.size wr (wr.alloc (.cells #[.int .i64 nk, .string nt, .slice nka nkl nkc] 38)).drew) := dr (ext_world wr _) 1
            have z0 : (wr.alloc (.cells #[.int .i64 nk, .string nt, .slice nka nkl nkc] 38)).drew.cell? ⟨wr.heap.size, 0, none⟩ = some (.int .i64 nk) := bcell (heap_new wr _ _) 0
            have z1 : (wr.alloc (.cells #[.int .i64 nk, .string nt, .slice nka nkl nkc] 38)).drew.cell? ⟨wr.heap.size, 1, none⟩ = some (.string nt) := bcell (heap_new wr _ _) 1
            generalize (wr.alloc (.cells #[.int .i64 nk, .string nt, .slice nka nkl nkc] 38)).drew = w5 at B5 z0 z1 ⊢
            have V5 : Hid (Below w.heap.size w w5) := hv.out.trans (B5.out.mono hv.out.size)
            have b0 : w5.cell? ⟨w.heap.size, 0, none⟩ = some (.slice A L c) := by rw [HAG.out]; exact (B5.out.cell (p := ⟨w.heap.size, 0, none⟩) (block_lt_of_cell g0)).trans g0
            have m0 : w5.cell? ⟨w.heap.size + 1, 0, none⟩ = some (.int .i64 kind) := (B5.out.cell (p := ⟨w.heap.size + 1, 0, none⟩) (block_lt_of_cell n0)).trans n0
            have m2 : w5.cell? ⟨w.heap.size + 1, 2, none⟩ = some (.slice ka i kc) := by rw [HKAX.out]; exact (B5.out.cell (p := ⟨w.heap.size + 1, 2, none⟩) (block_lt_of_cell n2)).trans n2
            generalize wr.heap.size = kb at z0 z1 ⊢
            clear hg0 hg1 hg2 hkc g0 n0 n2 B5 hv
            have SC2 := Lib.hid (rscalar_any nk)
            by_cases hsb : scalB nk = true
            · rw [hsb] at SC2
              go_wp2_with (go_at_call 44; (with_reducible refine (SC2.out _).mono ?_); rintro e wq2 ⟨rfl, rfl⟩)
              go_loopw [8] (fun v wz => ∃ q : Nat, q ≤ j ∧ v = .int .i64 ((2 * q : Nat) : Int) ∧ Hid (∀ t, t < q → keyAt ns (kids.getD (2 * t) 0) ≠ (nk, nt)) ∧ Hid (Below w.heap.size w wz) ∧ wz.cell? ⟨w.heap.size, 0, none⟩ = some (.slice A L c) ∧ wz.cell? ⟨w.heap.size + 1, 0, none⟩ = some (.int .i64 kind) ∧ wz.cell? ⟨w.heap.size + 1, 2, none⟩ = some (.slice ka i kc) ∧ wz.cell? ⟨kb, 0, none⟩ = some (.int .i64 nk) ∧ wz.cell? ⟨kb, 1, none⟩ = some (.string nt)) (fun v _ => i - (intOf v).toNat)
              case atStart => exact ⟨0, Nat.zero_le _, rfl, fun t ht => absurd ht (Nat.not_lt_zero _), V5.out, b0, m0, m2, z0, z1⟩
              case round =>
                clear z0 z1 b0 m0 m2 V5
                obtain ⟨q, hq, rfl, hnk, hv, g0, n0, n2, z0, z1⟩ := hrel
                by_cases hqj : q < j
                · have hqjI : (2 * (q : Int)) < 2 * (j : Int) := by omega
                  have hqiI : (2 * (q : Int)) < (i : Int) := by omega
                  have hq1 : (2 * (q : Int)).toNat = 2 * q := by omega
                  have hq5 : (0 : Int) ≤ 2 * (q : Int) := by omega
                  obtain ⟨bk, ok, hka, hbk, hkc⟩ := (HK.out.below hv.out).get (2 * q) (by rw [← HKL.out]; omega)
                  simp only at hka hkc
                  have hkr := HRG.out (2 * q) (by omega)
                  have HNX : Hid (keyAt ns (kids.getD (2 * q) 0) ≠ (nk, nt) → ∀ t, t < q + 1 → keyAt ns (kids.getD (2 * t) 0) ≠ (nk, nt)) := fun h t ht => by
                    rcases Nat.lt_succ_iff_lt_or_eq.1 ht with e | e
                    · exact hnk.out t e
                    · rw [e]; exact h
                  have HBAD : Hid (keyAt ns (kids.getD (2 * q) 0) = (nk, nt) → R = false) := fun h => by
                    rw [HDR.out]
                    exact keysOk_bad (Or.inr ((HMT.out _).2 ⟨q, hqj, by rw [h, HKA.out]⟩))
                  generalize kids.getD (2 * q) 0 = ya at hkc hkr HNX HBAD
                  obtain ⟨yn, rfl⟩ : ∃ yn : Nat, ya = (yn : Int) := ⟨ya.toNat, by omega⟩
                  have hyn : yn < ns.length := by have := HL.out; omega
                  have hyI : (yn : Int) < (L : Int) := by omega
                  obtain ⟨bh, oh, hAh, hbh, hh0, hh1, hh2⟩ := (HG.out.below hv.out).get yn hyn
                  simp only at hAh hh0 hh1 hh2
                  have HKB : Hid (keyAt ns (yn : Int) = ((ns.getD yn nd0).kind, (ns.getD yn nd0).txt)) := rfl
                  generalize ns.getD yn nd0 = nd at hh0 hh1 hh2 HKB
                  obtain ⟨mk, mt, mkids, mka, mkc⟩ := nd
                  simp only at hh0 hh1 hh2 HKB
                  rw [HKB.out] at HNX HBAD
                  generalize mkids.length = mkl at hh2
                  have HAH := Lib.hid hAh
                  have HKAY := Lib.hid hka
                  rw [hAh] at g0
                  rw [hka] at n2
                  clear hAh hka
                  go_wp2_with fail
                  go_region_held3 (fun w' => w'.cell? ⟨w.heap.size, 0, none⟩ = some (.slice (some ⟨bh, oh, none⟩) L c) ∧ w'.cell? ⟨w.heap.size + 1, 2, none⟩ = some (.slice (some ⟨bk, ok, none⟩) i kc) ∧ w'.cell? ⟨bk, ok + 2 * q, none⟩ = some (.int .i64 (yn : Int)) ∧ w'.cell? ⟨bh, oh + yn * 3, none⟩ = some (.int .i64 mk) ∧ w'.cell? ⟨bh, oh + yn * 3 + 1, none⟩ = some (.string mt) ∧ w'.cell? ⟨bh, oh + yn * 3 + 2, none⟩ = some (.slice mka mkl mkc))
                    (go_keep)
                    (fail)
                  have B6 : Hid (Below wr.heap.size wr (wr.alloc (.cells #[.int .i64 mk, .string mt, .slice mka mkl mkc] 38)).drew) := dr (ext_world wr _) 1
                  have y0 : (wr.alloc (.cells #[.int .i64 mk, .string mt, .slice mka mkl mkc] 38)).drew.cell? ⟨wr.heap.size, 0, none⟩ = some (.int .i64 mk) := bcell (heap_new wr _ _) 0
                  have y1 : (wr.alloc (.cells #[.int .i64 mk, .string mt, .slice mka mkl mkc] 38)).drew.cell? ⟨wr.heap.size, 1, none⟩ = some (.string mt) := bcell (heap_new wr _ _) 1
                  generalize (wr.alloc (.cells #[.int .i64 mk, .string mt, .slice mka mkl mkc] 38)).drew = w6 at B6 y0 y1 ⊢
                  have V6 : Hid (Below w.heap.size w w6) := hv.out.trans (B6.out.mono hv.out.size)
                  have b0 : w6.cell? ⟨w.heap.size, 0, none⟩ = some (.slice A L c) := by rw [HAH.out]; exact (B6.out.cell (p := ⟨w.heap.size, 0, none⟩) (block_lt_of_cell g0)).trans g0
                  have m0 : w6.cell? ⟨w.heap.size + 1, 0, none⟩ = some (.int .i64 kind) := (B6.out.cell (p := ⟨w.heap.size + 1, 0, none⟩) (block_lt_of_cell n0)).trans n0
                  have m2 : w6.cell? ⟨w.heap.size + 1, 2, none⟩ = some (.slice ka i kc) := by rw [HKAY.out]; exact (B6.out.cell (p := ⟨w.heap.size + 1, 2, none⟩) (block_lt_of_cell n2)).trans n2
                  have x0 : w6.cell? ⟨kb, 0, none⟩ = some (.int .i64 nk) := (B6.out.cell (p := ⟨kb, 0, none⟩) (block_lt_of_cell z0)).trans z0
                  have x1 : w6.cell? ⟨kb, 1, none⟩ = some (.string nt) := (B6.out.cell (p := ⟨kb, 1, none⟩) (block_lt_of_cell z1)).trans z1
                  generalize wr.heap.size = kb2 at y0 y1 ⊢
                  clear hh0 hh1 hh2 hkc g0 n0 n2 B6 hv z0 z1
                  by_cases hk1 : mk = nk
                  · have hkI1 : (mk == nk) = true := by rw [beq_iff_eq]; exact hk1
                    by_cases ht : mt = nt
                    · have htL : mt.toList = nt.toList := by rw [ht]
                      have htI : (mt.toList == nt.toList) = true := by rw [beq_iff_eq]; exact htL
                      have HF := Lib.hid (HBAD.out (by rw [hk1, ht]))
                      clear hk1 ht HNX HBAD
                      go_wp2_with fail
                      go_ret
                      exact ⟨by rw [HF.out]; rfl, V6.out⟩
                    · have htL : ¬ (mt.toList = nt.toList) := fun e => ht (toList_inj e)
                      have htI : (mt.toList == nt.toList) = false := by rw [beq_eq_false_iff_ne]; exact htL
                      have HN2 := Lib.hid (HNX.out (fun e => ht (by injection e)))
                      clear hk1 ht HNX HBAD
                      go_wp2_with fail
                      go_roundw
                      case rel => exact ⟨q + 1, by omega, by go_num, HN2.out, V6.out, b0, m0, m2, x0, x1⟩
                      case measure => simp [intOf]; omega
                  · have hkI1 : (mk == nk) = false := by rw [beq_eq_false_iff_ne]; exact hk1
                    have HN2 := Lib.hid (HNX.out (fun e => hk1 (by injection e)))
                    clear hk1 HNX HBAD
                    go_wp2_with fail
                    go_roundw
                    case rel => exact ⟨q + 1, by omega, by go_num, HN2.out, V6.out, b0, m0, m2, x0, x1⟩
                    case measure => simp [intOf]; omega
                · obtain rfl : q = j := by omega
                  have hqqI : ¬ ((2 * (q : Int)) < 2 * (q : Int)) := by omega
                  have HNXT : Hid (R = keysOk ns (ES.drop (q + 1)) ((ES.take (q + 1)).map (keyAt ns))) := by
                    show _ = _
                    rw [HDR.out, HTK.out]
                    refine keysOk_good (by rw [HKA.out]; exact hsb) fun h => ?_
                    obtain ⟨t, ht, e⟩ := (HMT.out _).1 h
                    rw [HKA.out] at e
                    exact hnk.out t ht e
                  go_wp2_with fail
                  go_roundw
                  case rel => exact ⟨q + 1, by omega, by go_num, HNXT.out, hv.out, g0, n0, n2⟩
                  case measure => simp [intOf]; omega
            · have hsf : scalB nk = false := by simpa using hsb
              have HF : Hid (R = false) := by
                show _ = _
                rw [HDR.out]
                exact keysOk_bad (Or.inl (by rw [HKA.out]; exact hsf))
              rw [hsf] at SC2
              go_wp2_with (go_at_call 44; (with_reducible refine (SC2.out _).mono ?_); rintro e wq2 ⟨rfl, rfl⟩)
              go_ret
              exact ⟨by rw [HF.out]; rfl, V5.out⟩
          · obtain rfl : j = i / 2 := by omega
            have hltI2 : ¬ ((2 * (((i / 2 : Nat)) : Int)) < (i : Int)) := by have := HEV.out; omega
            have HF : Hid (R = true) := by
              show _ = _
              rw [hko.out, List.drop_eq_nil_of_le (by rw [HES.out, evens_len, ← HKL.out]; exact Nat.le_refl _)]
              rfl
            go_wp2_with fail
            go_ret
            exact ⟨by rw [HF.out]; rfl, hv.out⟩
  have h6J : (kind == 6) = false := by rw [beq_eq_false_iff_ne]; exact h6
  have H6 := Lib.hid h6
  clear h6 hB
  cases sc
  case false =>
    clear hA
    go_enter Tryd.func31, Tryd.ntmps31
    go_wp2_with (first | (go_at_call 43; (with_reducible refine (TX.out _ hv.out).mono ?_); rintro e wq ⟨rfl, hb⟩; replace g0 := (hb.out.cell (p := ⟨w.heap.size, 0, none⟩) (block_lt_of_cell g0)).trans g0; replace n0 := (hb.out.cell (p := ⟨w.heap.size + 1, 0, none⟩) (block_lt_of_cell n0)).trans n0; replace n1 := (hb.out.cell (p := ⟨w.heap.size + 1, 1, none⟩) (block_lt_of_cell n1)).trans n1; replace n2 := (hb.out.cell (p := ⟨w.heap.size + 1, 2, none⟩) (block_lt_of_cell n2)).trans n2; replace hv := Lib.hid (hv.out.trans (hb.out.mono hv.out.size)); clear hb) | (go_at_call 44; (with_reducible refine (SCK.out _).mono ?_); rintro e wq2 ⟨rfl, rfl⟩))
    go_loopw [5] (fun v wr => ∃ i : Nat, i ≤ KL ∧ v = .int .i64 (i : Nat) ∧ Hid (∀ j, j < i → kidBad L (kids.getD j 0) = false) ∧ Hid (Below w.heap.size w wr) ∧ wr.cell? ⟨w.heap.size, 0, none⟩ = some (.slice A L c) ∧ wr.cell? ⟨w.heap.size + 1, 0, none⟩ = some (.int .i64 kind) ∧ wr.cell? ⟨w.heap.size + 1, 2, none⟩ = some (.slice ka KL kc)) (fun v _ => KL - (intOf v).toNat)
    case atStart => exact ⟨0, Nat.zero_le _, rfl, fun j hj => absurd hj (Nat.not_lt_zero _), hv.out, g0, n0, n2⟩
    case round =>
      clear g0 n0 n1 n2 hv
      obtain ⟨i, hi, rfl, hok, hv, g0, n0, n2⟩ := hrel
      by_cases hlt : i < KL
      · have hltI : (i : Int) < (KL : Int) := by omega
        obtain ⟨bk, ok, hka, hbk, hkc⟩ := (HK.out.below hv.out).get i (by rw [← HKL.out]; exact hlt)
        simp only at hka hkc
        have HKA := Lib.hid hka
        have HBAD : Hid (kidBad L (kids.getD i 0) = true → kids.any (kidBad L) = true) := fun h => any_some (by rw [← HKL.out]; exact hlt) h
        have HNX : Hid (kidBad L (kids.getD i 0) = false → ∀ j, j < i + 1 → kidBad L (kids.getD j 0) = false) := fun h j hj => by
          rcases Nat.lt_succ_iff_lt_or_eq.1 hj with e | e
          · exact hok.out j e
          · rw [e]; exact h
        generalize kids.getD i 0 = k at hkc HBAD HNX
        rw [hka] at n2
        clear hka
        by_cases k1 : k < 0
        · have HF : Hid (R = false) := by
            show _ = _
            rw [HR.out, HBAD.out (by unfold kidBad; rw [decide_eq_true k1]; rfl)]
            rfl
          clear HBAD HNX
          go_wp2_with fail
          go_quiet (fail)
          go_wp2_with fail
          go_ret
          exact ⟨by rw [HF.out]; rfl, dr hv.out _⟩
        · by_cases k2 : (L : Int) ≤ k
          · have HF : Hid (R = false) := by
              show _ = _
              rw [HR.out, HBAD.out (by unfold kidBad; rw [decide_eq_true k2, Bool.or_true])]
              rfl
            have k1I : ¬ (k < 0) := k1
            have k2I : (L : Int) ≤ k := k2
            clear HBAD HNX k1 k2
            go_wp2_with fail
            go_quiet (fail)
            go_wp2_with fail
            go_ret
            exact ⟨by rw [HF.out]; rfl, dr hv.out _⟩
          · have HN2 := Lib.hid (HNX.out (by unfold kidBad; rw [decide_eq_false k1, decide_eq_false k2]; rfl))
            have k1I : ¬ (k < 0) := k1
            have k2I : ¬ ((L : Int) ≤ k) := k2
            clear HBAD HNX k1 k2
            go_wp2_with fail
            go_quiet (fail)
            go_wp2_with fail
            go_roundw
            case rel => exact ⟨i + 1, by omega, by go_num, HN2.out, dr hv.out _, g0, n0, by rw [HKA.out]; exact n2⟩
            case measure => simp [intOf]; omega
      · obtain rfl : i = KL := by omega
        have HAN : Hid (kids.any (kidBad L) = false) := any_none (fun j hj => hok.out j (by rw [HKL.out]; exact hj))
        have HF : Hid (R = true) := by
          show _ = _
          rw [HR.out, HAN.out, if_neg H6.out]
          rfl
        go_wp2_with fail
        go_loopw [6] (fun v wz => v = .int .i64 0 ∧ Hid (Below w.heap.size w wz) ∧ wz.cell? ⟨w.heap.size + 1, 0, none⟩ = some (.int .i64 kind) ∧ wz.cell? ⟨w.heap.size + 1, 2, none⟩ = some (.slice ka i kc)) (fun v _ => 0)
        case atStart => exact ⟨rfl, hv.out, n0, n2⟩
        case round =>
          clear g0 n0 n2 hv
          obtain ⟨rfl, hv, n0, n2⟩ := hrel
          by_cases hz : (0 : Int) < (i : Int)
          · go_wp2_with fail
            go_ret
            exact ⟨by rw [HF.out]; rfl, hv.out⟩
          · go_wp2_with fail
            go_ret
            exact ⟨by rw [HF.out]; rfl, hv.out⟩
  have HK0 : Hid (KL = 0) := by
    rcases Nat.eq_zero_or_pos KL with h | h
    · exact h
    · exact absurd ⟨rfl, h⟩ hA
  have hk0I : ¬ ((0 : Int) < (KL : Int)) := by have := HK0.out; omega
  clear hA
  go_enter Tryd.func31, Tryd.ntmps31
  go_wp2_with (first | (go_at_call 43; (with_reducible refine (TX.out _ hv.out).mono ?_); rintro e wq ⟨rfl, hb⟩; replace g0 := (hb.out.cell (p := ⟨w.heap.size, 0, none⟩) (block_lt_of_cell g0)).trans g0; replace n0 := (hb.out.cell (p := ⟨w.heap.size + 1, 0, none⟩) (block_lt_of_cell n0)).trans n0; replace n1 := (hb.out.cell (p := ⟨w.heap.size + 1, 1, none⟩) (block_lt_of_cell n1)).trans n1; replace n2 := (hb.out.cell (p := ⟨w.heap.size + 1, 2, none⟩) (block_lt_of_cell n2)).trans n2; replace hv := Lib.hid (hv.out.trans (hb.out.mono hv.out.size)); clear hb) | (go_at_call 44; (with_reducible refine (SCK.out _).mono ?_); rintro e wq2 ⟨rfl, rfl⟩))
  go_loopw [5] (fun v wr => ∃ i : Nat, i ≤ KL ∧ v = .int .i64 (i : Nat) ∧ Hid (∀ j, j < i → kidBad L (kids.getD j 0) = false) ∧ Hid (Below w.heap.size w wr) ∧ wr.cell? ⟨w.heap.size, 0, none⟩ = some (.slice A L c) ∧ wr.cell? ⟨w.heap.size + 1, 0, none⟩ = some (.int .i64 kind) ∧ wr.cell? ⟨w.heap.size + 1, 2, none⟩ = some (.slice ka KL kc)) (fun v _ => KL - (intOf v).toNat)
  case atStart => exact ⟨0, Nat.zero_le _, rfl, fun j hj => absurd hj (Nat.not_lt_zero _), hv.out, g0, n0, n2⟩
  case round =>
    clear g0 n0 n1 n2 hv
    obtain ⟨i, hi, rfl, hok, hv, g0, n0, n2⟩ := hrel
    by_cases hlt : i < KL
    · exact absurd hlt (by have := HK0.out; omega)
    · obtain rfl : i = KL := by omega
      have HAN : Hid (kids.any (kidBad L) = false) := any_none (fun j hj => hok.out j (by rw [HKL.out]; exact hj))
      have HF : Hid (R = true) := by
        show _ = _
        rw [HR.out, HAN.out, if_neg H6.out]
        rfl
      go_wp2_with fail
      go_loopw [6] (fun v wz => v = .int .i64 0 ∧ Hid (Below w.heap.size w wz) ∧ wz.cell? ⟨w.heap.size + 1, 0, none⟩ = some (.int .i64 kind) ∧ wz.cell? ⟨w.heap.size + 1, 2, none⟩ = some (.slice ka i kc)) (fun v _ => 0)
      case atStart => exact ⟨rfl, hv.out, n0, n2⟩
      case round =>
        clear g0 n0 n2 hv
        obtain ⟨rfl, hv, n0, n2⟩ := hrel
        by_cases hz : (0 : Int) < (i : Int)
        · exact absurd hz (by have := HK0.out; omega)
        · go_wp2_with fail
          go_ret
          exact ⟨by rw [HF.out]; rfl, hv.out⟩
end Go.Proofs.YtpgncjfmaeiaaaaDoor.Is
