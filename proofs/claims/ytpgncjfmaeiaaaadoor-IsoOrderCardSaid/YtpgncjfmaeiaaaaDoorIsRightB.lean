/- Is a graph right: the walk. Conditions: as in IsRight. -/
import Derived.Test.YtpgncjfmaeiaaaaDoorIsRight
set_option linter.unusedVariables false
namespace Go.Proofs.YtpgncjfmaeiaaaaDoor.Is
open Go.RowKit
set_option maxRecDepth 100000 in
set_option maxHeartbeats 3200000 in
theorem right_any (g : Gv) (w : World) (E : Env w) (G : GrIn w g) (hS : g.ns.length ≤ 4096 → ∀ m ∈ g.ns, m.txt.size ≤ 1000000 ∧ m.kids.length ≤ 1000000) :
    Calls Tryd.prog 15 #[g.val] w (BoolPost (rightN g) w) := by
  obtain ⟨A, c, ns, root⟩ := g
  unfold Gv.val
  simp only at hS ⊢
  have hcap := G.cap
  have hrt := G.root
  simp only at hcap hrt
  unfold wf64 at hrt
  obtain ⟨n, hn⟩ : ∃ n, n = ns.length := ⟨_, rfl⟩
  have HN := Lib.hid hn
  have HB0 : Hid (Below w.heap.size w (w.alloc (.cells #[.slice A n c, .int .i64 root] 24))) := ext_world w _
  have hR : rightN ⟨A, c, ns, root⟩ = (decide (1 ≤ n) && (decide (n ≤ 4096) && (decide (0 ≤ root) && (decide (root < n) && (ns.all (nodeB ns) && ns.all fun m => !(keysN m).any (usedB root ns)))))) := by rw [hn]; rfl
  rw [hR]
  rw [← hn] at hS hcap ⊢
  clear hR hn
  by_cases h1 : 1 ≤ n
  case neg =>
    rw [decide_eq_false h1]
    obtain rfl : n = 0 := by omega
    go_enter Tryd.func15, Tryd.ntmps15
    go_wp2_with fail
    go_ret
    exact ⟨rfl, HB0.out⟩
  have h1I : ((n : Int) == 0) = false := beq_eq_false_iff_ne.2 (by omega)
  by_cases h2 : n ≤ 4096
  case neg =>
    rw [decide_eq_true h1, decide_eq_false h2]
    have h2I : (4096 : Int) < (n : Int) := by omega
    go_enter Tryd.func15, Tryd.ntmps15
    go_wp2_with fail
    go_ret
    exact ⟨rfl, HB0.out⟩
  have h2I : ¬ ((4096 : Int) < (n : Int)) := by omega
  by_cases h3 : 0 ≤ root
  case neg =>
    rw [decide_eq_true h1, decide_eq_true h2, decide_eq_false h3]
    have h3I : root < 0 := by omega
    go_enter Tryd.func15, Tryd.ntmps15
    go_wp2_with fail
    go_ret
    exact ⟨rfl, HB0.out⟩
  have h3I : ¬ (root < 0) := by omega
  by_cases h4 : root < n
  case neg =>
    rw [decide_eq_true h1, decide_eq_true h2, decide_eq_true h3, decide_eq_false h4]
    have h4I : (n : Int) ≤ root := by omega
    go_enter Tryd.func15, Tryd.ntmps15
    go_wp2_with fail
    go_ret
    exact ⟨rfl, HB0.out⟩
  rw [decide_eq_true h1, decide_eq_true h2, decide_eq_true h3, decide_eq_true h4]
  simp only [Bool.true_and]
  obtain ⟨r, rfl⟩ : ∃ r : Nat, root = (r : Int) := ⟨root.toNat, by omega⟩
  have hr : r < n := by omega
  have h4I : ¬ ((n : Int) ≤ (r : Int)) := by omega
  have hrI : (r : Int) < (n : Int) := by omega
  have HS : Hid (∀ m ∈ ns, m.txt.size ≤ 1000000 ∧ m.kids.length ≤ 1000000) := hS h2
  have HG := Lib.hid G
  have ND : Hid (∀ i, i < n → ∀ W, Below w.heap.size w W → Calls Tryd.prog 24 #[.agg #[.slice A n c, .int .i64 (r : Int)], (ns.getD i nd0).val] W (BoolPost (nodeB ns (ns.getD i nd0)) W)) := fun i hi W hb => by
    have h9 := isnode_any ⟨A, c, ns, (r : Int)⟩ (ns.getD i nd0) W (E.below hb) (G.below hb) ((G.kids _ (getD_memD (by show i < ns.length; rw [← HN.out]; exact hi))).below hb) (HS.out _ (getD_memD (by rw [← HN.out]; exact hi))).1 (HS.out _ (getD_memD (by rw [← HN.out]; exact hi))).2 (fun m hm => (HS.out m hm).1) (by show ns.length ≤ 4096; rw [← HN.out]; exact h2)
    unfold Gv.val at h9
    simp only at h9
    rw [← HN.out] at h9
    exact h9
  obtain ⟨R, hR⟩ : ∃ R, R = (ns.all (nodeB ns) && ns.all fun m => !(keysN m).any (usedB (r : Int) ns)) := ⟨_, rfl⟩
  rw [← hR]
  have HR := Lib.hid hR
  clear hR E G hS
  obtain ⟨U, w1, hmk, hc1, hb1, hU⟩ := mk_counts n (by omega) (w.alloc (.cells #[.slice A n c, .int .i64 (r : Int)] 24))
  have g0 : w1.cell? ⟨w.heap.size, 0, none⟩ = some (.slice A n c) := (hb1.cell (p := ⟨w.heap.size, 0, none⟩) (by simp)).trans (bcell (heap_new w _ _) 0)
  have g1 : w1.cell? ⟨w.heap.size, 1, none⟩ = some (.int .i64 (r : Int)) := (hb1.cell (p := ⟨w.heap.size, 1, none⟩) (by simp)).trans (bcell (heap_new w _ _) 1)
  have HU : Hid (w.heap.size < U) := by show _ < _; rw [hU]; simp
  have C1 := Lib.hid hc1
  have B1 : Hid (Below w.heap.size w w1) := HB0.out.trans (hb1.mono HB0.out.size)
  clear hc1 hb1 hU
  have HUL : Hid (U < w1.heap.size) := C1.out.lt
  have HGL : Hid (w.heap.size < w1.heap.size) := block_lt_of_cell g0
  have B2 : Hid (Below w1.heap.size w1 (w1.alloc (.cells #[.slice (some ⟨U, 0, none⟩) n n] 36))) := ext_world w1 _
  have C2 : Hid (Cnt (w1.alloc (.cells #[.slice (some ⟨U, 0, none⟩) n n] 36)) U n (fun _ => 0)) := C1.out.below B2.out
  have a0 : (w1.alloc (.cells #[.slice (some ⟨U, 0, none⟩) n n] 36)).cell? ⟨w.heap.size, 0, none⟩ = some (.slice A n c) := (B2.out.cell (p := ⟨w.heap.size, 0, none⟩) HGL.out).trans g0
  have a1 : (w1.alloc (.cells #[.slice (some ⟨U, 0, none⟩) n n] 36)).cell? ⟨w.heap.size, 1, none⟩ = some (.int .i64 (r : Int)) := (B2.out.cell (p := ⟨w.heap.size, 1, none⟩) HGL.out).trans g1
  have u0 : (w1.alloc (.cells #[.slice (some ⟨U, 0, none⟩) n n] 36)).cell? ⟨U, r, none⟩ = some (.int .i64 0) := C2.out.cell hr
  have uf : (w1.alloc (.cells #[.slice (some ⟨U, 0, none⟩) n n] 36)).frozen? ⟨U, r, none⟩ = false := C2.out.free r
  have p0 : (w1.alloc (.cells #[.slice (some ⟨U, 0, none⟩) n n] 36)).cell? ⟨w1.heap.size, 0, none⟩ = some (.slice (some ⟨U, 0, none⟩) n n) := bcell (heap_new w1 _ _) 0
  have C3 : Hid (Cnt ((w1.alloc (.cells #[.slice (some ⟨U, 0, none⟩) n n] 36)).setCell ⟨U, r, none⟩ (.int .i64 1)) U n (usesTo (r : Int) ns 0)) :=
    C2.out.bump hr (by simp [usesTo]) (fun j hj hne => by
      have : ¬ ((j : Int) = (r : Int)) := by omega
      simp [usesTo, this])
  have D3 : Hid (Below w.heap.size w ((w1.alloc (.cells #[.slice (some ⟨U, 0, none⟩) n n] 36)).setCell ⟨U, r, none⟩ (.int .i64 1))) :=
    setCell_below (B1.out.trans (B2.out.mono B1.out.size)) (Nat.le_of_lt HU.out) (Nat.le_trans B1.out.size B2.out.size)
  have b0 : ((w1.alloc (.cells #[.slice (some ⟨U, 0, none⟩) n n] 36)).setCell ⟨U, r, none⟩ (.int .i64 1)).cell? ⟨w.heap.size, 0, none⟩ = some (.slice A n c) := setCell_cell a0 (by have h9 := HU.out; show w.heap.size ≠ U; omega)
  have b1 : ((w1.alloc (.cells #[.slice (some ⟨U, 0, none⟩) n n] 36)).setCell ⟨U, r, none⟩ (.int .i64 1)).cell? ⟨w.heap.size, 1, none⟩ = some (.int .i64 (r : Int)) := setCell_cell a1 (by have h9 := HU.out; show w.heap.size ≠ U; omega)
  have q0 : ((w1.alloc (.cells #[.slice (some ⟨U, 0, none⟩) n n] 36)).setCell ⟨U, r, none⟩ (.int .i64 1)).cell? ⟨w1.heap.size, 0, none⟩ = some (.slice (some ⟨U, 0, none⟩) n n) := setCell_cell p0 (by have h9 := HUL.out; show w1.heap.size ≠ U; omega)
  go_enter Tryd.func15, Tryd.ntmps15
  go_wp2_with fail
  generalize ((w1.alloc (.cells #[.slice (some ⟨U, 0, none⟩) n n] 36)).setCell ⟨U, r, none⟩ (.int .i64 1)) = w3 at C3 D3 b0 b1 q0 ⊢
  clear a0 a1 u0 uf p0 C2 B2 g0 g1 C1 B1 hmk
  generalize w1.heap.size = UB at HUL HGL q0 ⊢
  have MA : Hid (∀ i, i < n → wf64 (ns.getD i nd0).kind ∧ KidsAt w (ns.getD i nd0)) := fun i hi => ⟨(HG.out.kids _ (getD_memD (by show i < ns.length; rw [← HN.out]; exact hi))).kwf, HG.out.kids _ (getD_memD (by show i < ns.length; rw [← HN.out]; exact hi))⟩
  have RFALSE : Hid (∀ i, i < n → nodeB ns (ns.getD i nd0) = false → R = false) := fun i hi hb => by
    rw [HR.out]
    have : ns.all (nodeB ns) = false := by
      rw [List.all_eq_false]
      exact ⟨_, getD_memD (by rw [← HN.out]; exact hi), by rw [hb]; simp⟩
    rw [this]; rfl
  go_loopw [47] (fun v wr => ∃ i : Nat, i ≤ n ∧ v = .int .i64 (i : Int) ∧ Hid (Below w.heap.size w wr) ∧ Hid (Cnt wr U n (usesTo (r : Int) ns i)) ∧ Hid (∀ j, j < i → nodeB ns (ns.getD j nd0) = true) ∧ wr.cell? ⟨w.heap.size, 0, none⟩ = some (.slice A n c) ∧ wr.cell? ⟨w.heap.size, 1, none⟩ = some (.int .i64 (r : Int)) ∧ wr.cell? ⟨UB, 0, none⟩ = some (.slice (some ⟨U, 0, none⟩) n n)) (fun v _ => n - (intOf v).toNat)
  case atStart => exact ⟨0, Nat.zero_le _, rfl, D3.out, C3.out, fun j hj => by omega, b0, b1, q0⟩
  case round =>
    obtain ⟨i, hi, rfl, hb, hc, hno, g0, g1, p0⟩ := hrel
    by_cases hlt : i < n
    · have hltI : (i : Int) < (n : Int) := by omega
      obtain ⟨bg, og, hA, hbl, n0, n1, n2⟩ := (HG.out.below hb.out).get i (by show i < ns.length; rw [← HN.out]; exact hlt)
      have NDI := Lib.hid (ND.out i hlt)
      have MI := Lib.hid (MA.out i hlt)
      have HSI := Lib.hid (HS.out (ns.getD i nd0) (getD_memD (by rw [← HN.out]; exact hlt)))
      have RFI := Lib.hid (RFALSE.out i hlt)
      have USI : Hid (∀ k, usesTo (r : Int) ns (i + 1) k = usesTo (r : Int) ns i k + (ns.getD i nd0).kids.count (k : Int)) := fun k => usesTo_succ (by rw [← HN.out]; exact hlt) k
      have ULE : Hid (∀ k, usesTo (r : Int) ns i k ≤ 1 + i * 1000000) := fun k => usesTo_le (fun m hm => (HS.out m hm).2) k i (by rw [← HN.out]; exact hi)
      have NOI : Hid (nodeB ns (ns.getD i nd0) = true → ∀ j, j < i + 1 → nodeB ns (ns.getD j nd0) = true) := fun h j hj => by
        rcases Nat.lt_or_ge j i with h' | h'
        · exact hno.out j h'
        · obtain rfl : j = i := by omega
          exact h
      have KB : Hid (nodeB ns (ns.getD i nd0) = true → ∀ k ∈ (ns.getD i nd0).kids, 0 ≤ k ∧ k < n) := fun h k hk => by
        unfold nodeB at h
        simp only [Bool.and_eq_true] at h
        have h9 := h.2.2.2.2.2.1
        simp only [Bool.not_eq_true', List.any_eq_false] at h9
        have h8 := h9 k hk
        simp only [kidBad, Bool.or_eq_true, decide_eq_true_eq, not_or] at h8
        rw [HN.out]
        omega
      simp only at hA n0 n1 n2
      generalize ns.getD i nd0 = nd at n0 n1 n2 NDI MI HSI RFI USI NOI KB
      obtain ⟨kind, txt, kids, ka, kc⟩ := nd
      unfold Nd.val at NDI
      simp only at n0 n1 n2 NDI HSI USI KB
      obtain ⟨KL, hKL⟩ : ∃ KL, KL = kids.length := ⟨_, rfl⟩
      rw [← hKL] at n2 NDI HSI
      have HKL := Lib.hid hKL
      have hKB := HSI.out.2
      clear hKL
      subst hA
      have HR0 := Lib.hid (Kept.first wr 38 #[.int .i64 0, .string ⟨#[]⟩, .slice none 0 0])
      have HR1 := Lib.hid (HR0.out.set #[.int .i64 kind, .string txt, .slice ka KL kc])
      have r0 := HR1.out.cell 0
      have r1 := HR1.out.cell 1
      have r2 := HR1.out.cell 2
      have hone : (#[Value.int .i64 kind, Value.string txt, Value.slice ka KL kc]).all (·.oneCell') = true := by simp [Value.oneCell']
      have WS : Hid (∀ (a : Addr) (v : Value), wr.cell? a = some v → ((wr.alloc (.cells #[.int .i64 0, .string ⟨#[]⟩, .slice none 0 0] 38)).setRow wr.heap.size #[.int .i64 kind, .string txt, .slice ka KL kc]).cell? a = some v) := fun a v h => (HR1.out.2.cell (p := a) (block_lt_of_cell h)).trans h
      have g0' := WS.out _ _ g0
      have g1' := WS.out _ _ g1
      have p0' := WS.out _ _ p0
      have B4 : Hid (Below w.heap.size w ((wr.alloc (.cells #[.int .i64 0, .string ⟨#[]⟩, .slice none 0 0] 38)).setRow wr.heap.size #[.int .i64 kind, .string txt, .slice ka KL kc])) := hb.out.trans (HR1.out.2.mono hb.out.size)
      have C4 : Hid (Cnt ((wr.alloc (.cells #[.int .i64 0, .string ⟨#[]⟩, .slice none 0 0] 38)).setRow wr.heap.size #[.int .i64 kind, .string txt, .slice ka KL kc]) U n (usesTo (r : Int) ns i)) := hc.out.below HR1.out.2
      have HRL : Hid (wr.heap.size < ((wr.alloc (.cells #[.int .i64 0, .string ⟨#[]⟩, .slice none 0 0] 38)).setRow wr.heap.size #[.int .i64 kind, .string txt, .slice ka KL kc]).heap.size) := blt HR1.out.1
      clear WS
      go_wp2_with (refine wpList_store_row rfl 38 _ _ rfl wr.heap.size #[.int .i64 kind, .string txt, .slice ka KL kc] rfl rfl 38 _ HR0.out.1 (by kernel_rfl) rfl hone ?_)
      generalize ((wr.alloc (.cells #[.int .i64 0, .string ⟨#[]⟩, .slice none 0 0] 38)).setRow wr.heap.size #[.int .i64 kind, .string txt, .slice ka KL kc]) = w4 at HR1 r0 r1 r2 g0' g1' p0' B4 C4 HRL ⊢
      generalize wr.heap.size = nb at HR0 HR1 r0 r1 r2 HRL ⊢
      refine (NDI.out w4 B4.out).mono ?_
      rintro e w5 ⟨rfl, hb5⟩
      have B5 : Hid (Below w.heap.size w w5) := B4.out.trans (hb5.mono B4.out.size)
      have C5 : Hid (Cnt w5 U n (usesTo (r : Int) ns i)) := C4.out.below hb5
      have s0 : w5.cell? ⟨w.heap.size, 0, none⟩ = some (.slice (some ⟨bg, og, none⟩) n c) := (hb5.cell (p := ⟨w.heap.size, 0, none⟩) (block_lt_of_cell g0')).trans g0'
      have s1 : w5.cell? ⟨w.heap.size, 1, none⟩ = some (.int .i64 (r : Int)) := (hb5.cell (p := ⟨w.heap.size, 1, none⟩) (block_lt_of_cell g1')).trans g1'
      have t0 : w5.cell? ⟨UB, 0, none⟩ = some (.slice (some ⟨U, 0, none⟩) n n) := (hb5.cell (p := ⟨UB, 0, none⟩) (block_lt_of_cell p0')).trans p0'
      have m2 : w5.cell? ⟨nb, 2, none⟩ = some (.slice ka KL kc) := (hb5.cell (p := ⟨nb, 2, none⟩) HRL.out).trans r2
      clear g0 g1 p0 g0' g1' p0' r0 r1 r2 HR0 HR1 hb5 n0 n1 n2 C4
      generalize nodeB ns ⟨kind, txt, kids, ka, kc⟩ = nok at RFI NOI KB
      cases nok
      · have HF : Hid (R = false) := RFI.out rfl
        go_wp2_with fail
        go_ret
        exact ⟨by rw [HF.out]; rfl, B5.out⟩
      · have NO2 : Hid (∀ j, j < i + 1 → nodeB ns (ns.getD j nd0) = true) := NOI.out rfl
        have KB2 : Hid (∀ k ∈ kids, 0 ≤ k ∧ k < n) := KB.out rfl
        clear NOI KB RFI
        go_wp2_with fail
        go_loopw [58] (fun v wq => ∃ j : Nat, j ≤ KL ∧ v = .int .i64 (j : Int) ∧ Hid (Below w.heap.size w wq) ∧ Hid (Cnt wq U n (fun k => usesTo (r : Int) ns i k + (kids.take j).count (k : Int))) ∧ wq.cell? ⟨w.heap.size, 0, none⟩ = some (.slice (some ⟨bg, og, none⟩) n c) ∧ wq.cell? ⟨w.heap.size, 1, none⟩ = some (.int .i64 (r : Int)) ∧ wq.cell? ⟨UB, 0, none⟩ = some (.slice (some ⟨U, 0, none⟩) n n)) (fun v _ => KL - (intOf v).toNat)
        case atStart => exact ⟨0, Nat.zero_le _, rfl, B5.out, C5.out.eq (fun k hk => by simp), s0, s1, t0⟩
        case round =>
          obtain ⟨j, hj, rfl, hbq, hcq, x0, x1, y0⟩ := hrel
          by_cases hjl : j < KL
          · have hjI : (j : Int) < (KL : Int) := by omega
            obtain ⟨bk, ok, hka, hbk, hkc⟩ := (MI.out.2.below hbq.out).get j (by show j < kids.length; rw [← HKL.out]; exact hjl)
            have HMEM := KB2.out (kids.getD j 0) (by
              rw [List.getD_eq_getElem?_getD, List.getElem?_eq_getElem (by rw [← HKL.out]; exact hjl)]
              exact List.getElem_mem _)
            have CT1 : Hid (∀ k : Int, (kids.take (j + 1)).count k = (kids.take j).count k + if kids.getD j 0 = k then 1 else 0) := fun k => count_take (by rw [← HKL.out]; exact hjl) k
            simp only at hka hkc
            generalize kids.getD j 0 = x at hkc HMEM CT1
            obtain ⟨xn, rfl⟩ : ∃ xn : Nat, x = (xn : Int) := ⟨x.toNat, by omega⟩
            have hxn : xn < n := by omega
            have hxI : (xn : Int) < (n : Int) := by omega
            have CNB : Hid ((kids.take j).count (xn : Int) ≤ 1000000) := Nat.le_trans List.count_le_length (by rw [List.length_take]; omega)
            have ULX : Hid (usesTo (r : Int) ns i xn ≤ 5000000000) := Nat.le_trans (ULE.out xn) (by omega)
            have hux := hcq.out.cell hxn
            have huf := hcq.out.free xn
            obtain ⟨V, hV⟩ : ∃ V, V = usesTo (r : Int) ns i xn + (kids.take j).count (xn : Int) := ⟨_, rfl⟩
            have HV9 : Hid (V ≤ 6000000000) := by show _ ≤ _; have h8 := CNB.out; have h9 := ULX.out; omega
            have hV9 := HV9.out
            have C6 : Hid (Cnt (wr.setCell ⟨U, xn, none⟩ (.int .i64 ((V : Int) + 1))) U n (fun k => usesTo (r : Int) ns i k + (kids.take (j + 1)).count (k : Int))) :=
              hcq.out.bump hxn (by rw [CT1.out, if_pos rfl, hV]; push_cast; omega) (fun k hk hne => by rw [CT1.out, if_neg (by omega)]; omega)
            have B6 : Hid (Below w.heap.size w (wr.setCell ⟨U, xn, none⟩ (.int .i64 ((V : Int) + 1)))) := setCell_below hbq.out (Nat.le_of_lt HU.out) hbq.out.size
            have x0' : (wr.setCell ⟨U, xn, none⟩ (.int .i64 ((V : Int) + 1))).cell? ⟨w.heap.size, 0, none⟩ = some (.slice (some ⟨bg, og, none⟩) n c) := setCell_cell x0 (by have h9 := HU.out; show w.heap.size ≠ U; omega)
            have x1' : (wr.setCell ⟨U, xn, none⟩ (.int .i64 ((V : Int) + 1))).cell? ⟨w.heap.size, 1, none⟩ = some (.int .i64 (r : Int)) := setCell_cell x1 (by have h9 := HU.out; show w.heap.size ≠ U; omega)
            have y0' : (wr.setCell ⟨U, xn, none⟩ (.int .i64 ((V : Int) + 1))).cell? ⟨UB, 0, none⟩ = some (.slice (some ⟨U, 0, none⟩) n n) := setCell_cell y0 (by have h9 := HUL.out; show UB ≠ U; omega)
            rw [← hV] at hux
            clear hV CT1 hcq
            subst hka
            go_wp2_with fail
            go_roundw
            case rel => exact ⟨j + 1, by omega, by go_num, B6.out, C6.out, x0', x1', y0'⟩
            case measure => simp [intOf]; omega
          · obtain rfl : j = KL := by omega
            have hjI : ¬ ((j : Int) < (j : Int)) := by omega
            have C7 : Hid (Cnt wr U n (usesTo (r : Int) ns (i + 1))) := hcq.out.eq (fun k hk => by rw [USI.out, HKL.out, List.take_length])
            go_wp2_with fail
            go_roundw
            case rel => exact ⟨i + 1, by omega, by go_num, hbq.out, C7.out, NO2.out, x0, x1, y0⟩
            case measure => simp [intOf]; omega
    · obtain rfl : i = n := by omega
      have hltI : ¬ ((i : Int) < (i : Int)) := by omega
      have ALLN : Hid (ns.all (nodeB ns) = true) := by
        show _ = _
        rw [List.all_eq_true]
        intro m hm
        obtain ⟨j, hj, rfl⟩ := List.getElem_of_mem hm
        have h9 := hno.out j (by rw [HN.out]; exact hj)
        rw [List.getD_eq_getElem?_getD, List.getElem?_eq_getElem hj] at h9
        exact h9
      have HR2 : Hid (R = ns.all fun m => !(keysN m).any (usedB (r : Int) ns)) := by
        show _ = _
        rw [HR.out, ALLN.out, Bool.true_and]
      have KBN : Hid (∀ j, j < i → ∀ k ∈ (ns.getD j nd0).kids, 0 ≤ k ∧ k < i) := fun j hj k hk => by
        have h := hno.out j hj
        unfold nodeB at h
        simp only [Bool.and_eq_true] at h
        have h9 := h.2.2.2.2.2.1
        simp only [Bool.not_eq_true', List.any_eq_false] at h9
        have h8 := h9 k hk
        simp only [kidBad, Bool.or_eq_true, decide_eq_true_eq, not_or] at h8
        rw [HN.out]
        omega
      have UB2 : Hid (∀ k : Nat, decide (1 < usesTo (r : Int) ns i k) = usedB (r : Int) ns (k : Int)) := fun k => by unfold usedB; rw [HN.out, Int.toNat_natCast]
      clear hno RFALSE HR ALLN ND
      go_wp2_with fail
      go_loopw [73] (fun v wr => ∃ j : Nat, j ≤ i ∧ v = .int .i64 (j : Int) ∧ Hid (Below w.heap.size w wr) ∧ Hid (Cnt wr U i (usesTo (r : Int) ns i)) ∧ Hid (∀ q, q < j → (keysN (ns.getD q nd0)).any (usedB (r : Int) ns) = false) ∧ wr.cell? ⟨UB, 0, none⟩ = some (.slice (some ⟨U, 0, none⟩) i i)) (fun v _ => i - (intOf v).toNat)
      case atStart => exact ⟨0, Nat.zero_le _, rfl, hb.out, hc.out, fun j hj => by omega, p0⟩
      case round =>
        obtain ⟨j, hj, rfl, hb2, hc2, hno, p1⟩ := hrel
        by_cases hlt : j < i
        · have hltI : (j : Int) < (i : Int) := by omega
          obtain ⟨bg, og, hA, hbl, n0, n1, n2⟩ := (HG.out.below hb2.out).get j (by show j < ns.length; rw [← HN.out]; exact hlt)
          have MI := Lib.hid (MA.out j hlt)
          have HSI := Lib.hid (HS.out (ns.getD j nd0) (getD_memD (by rw [← HN.out]; exact hlt)))
          have KBJ := Lib.hid (KBN.out j hlt)
          have RFI : Hid ((keysN (ns.getD j nd0)).any (usedB (r : Int) ns) = true → R = false) := fun h => by
            rw [HR2.out, List.all_eq_false]
            exact ⟨_, getD_memD (by rw [← HN.out]; exact hlt), by rw [h]; simp⟩
          have NOI : Hid ((keysN (ns.getD j nd0)).any (usedB (r : Int) ns) = false → ∀ q, q < j + 1 → (keysN (ns.getD q nd0)).any (usedB (r : Int) ns) = false) := fun h q hq => by
            rcases Nat.lt_or_ge q j with h' | h'
            · exact hno.out q h'
            · obtain rfl : q = j := by omega
              exact h
          have KY : Hid (∀ W, Below w.heap.size w W → Calls Tryd.prog 26 #[(ns.getD j nd0).val] W (KeysPost (keysN (ns.getD j nd0)) W)) := fun W hb => keys_any _ W (MI.out.2.below hb) HSI.out.2
          have KM : Hid (∀ k ∈ keysN (ns.getD j nd0), 0 ≤ k ∧ k < i) := fun k hk => KBJ.out k (keys_mem hk)
          have KLN : Hid ((keysN (ns.getD j nd0)).length ≤ 1000000) := Nat.le_trans (keysN_len _) HSI.out.2
          simp only at hA n0 n1 n2
          generalize keysN (ns.getD j nd0) = zs at KY KM KLN RFI NOI
          generalize ns.getD j nd0 = nd at n0 n1 n2 KY
          obtain ⟨kind, txt, kids, ka, kc⟩ := nd
          unfold Nd.val at KY
          simp only at n0 n1 n2 KY
          generalize kids.length = KL at n2 KY
          subst hA
          have HR0 := Lib.hid (Kept.first wr 38 #[.int .i64 0, .string ⟨#[]⟩, .slice none 0 0])
          have HR1 := Lib.hid (HR0.out.set #[.int .i64 kind, .string txt, .slice ka KL kc])
          have r0 := HR1.out.cell 0
          have r1 := HR1.out.cell 1
          have r2 := HR1.out.cell 2
          have hone : (#[Value.int .i64 kind, Value.string txt, Value.slice ka KL kc]).all (·.oneCell') = true := by simp [Value.oneCell']
          have B4 : Hid (Below w.heap.size w ((wr.alloc (.cells #[.int .i64 0, .string ⟨#[]⟩, .slice none 0 0] 38)).setRow wr.heap.size #[.int .i64 kind, .string txt, .slice ka KL kc])) := hb2.out.trans (HR1.out.2.mono hb2.out.size)
          have C4 : Hid (Cnt ((wr.alloc (.cells #[.int .i64 0, .string ⟨#[]⟩, .slice none 0 0] 38)).setRow wr.heap.size #[.int .i64 kind, .string txt, .slice ka KL kc]) U i (usesTo (r : Int) ns i)) := hc2.out.below HR1.out.2
          have p2 : ((wr.alloc (.cells #[.int .i64 0, .string ⟨#[]⟩, .slice none 0 0] 38)).setRow wr.heap.size #[.int .i64 kind, .string txt, .slice ka KL kc]).cell? ⟨UB, 0, none⟩ = some (.slice (some ⟨U, 0, none⟩) i i) := (HR1.out.2.cell (p := ⟨UB, 0, none⟩) (block_lt_of_cell p1)).trans p1
          clear p1 g0 g1 p0
          go_wp2_with (refine wpList_store_row rfl 38 _ _ rfl wr.heap.size #[.int .i64 kind, .string txt, .slice ka KL kc] rfl rfl 38 _ HR0.out.1 (by kernel_rfl) rfl hone ?_)
          generalize ((wr.alloc (.cells #[.int .i64 0, .string ⟨#[]⟩, .slice none 0 0] 38)).setRow wr.heap.size #[.int .i64 kind, .string txt, .slice ka KL kc]) = w4 at HR1 r0 r1 r2 p2 B4 C4 ⊢
          generalize wr.heap.size = nb at HR0 HR1 r0 r1 r2 ⊢
          refine (KY.out w4 B4.out).mono ?_
          rintro e w5 ⟨A5, c5, rfl, hr5, hb5, hf5⟩
          have B5 : Hid (Below w.heap.size w w5) := B4.out.trans (hb5.mono B4.out.size)
          have C5 : Hid (Cnt w5 U i (usesTo (r : Int) ns i)) := C4.out.below hb5
          have p3 : w5.cell? ⟨UB, 0, none⟩ = some (.slice (some ⟨U, 0, none⟩) i i) := (hb5.cell (p := ⟨UB, 0, none⟩) (block_lt_of_cell p2)).trans p2
          have CU : Hid (Calls Tryd.prog 25 #[.slice A5 zs.length c5, .func (.func 27) #[] #[.pointer (some ⟨UB, 0, none⟩)]] w5 fun e w' => e = .returned (.bool (zs.any (usedB (r : Int) ns))) ∧ Hid (Below w5.heap.size w5 w')) :=
            contains_use A5 c5 UB zs (usedB (r : Int) ns) w5 hr5 (Nat.le_trans KLN.out (by omega)) (fun V q hq hV => by
              have hx := KM.out (zs.getD q 0) (by
                rw [List.getD_eq_getElem?_getD, List.getElem?_eq_getElem hq]
                exact List.getElem_mem _)
              obtain ⟨xn, hxn⟩ : ∃ xn : Nat, zs.getD q 0 = (xn : Int) := ⟨(zs.getD q 0).toNat, by omega⟩
              rw [hxn, ← UB2.out xn]
              exact useat_any UB U i (usesTo (r : Int) ns i) xn V ((hV.cell (p := ⟨UB, 0, none⟩) (block_lt_of_cell p3)).trans p3) (C5.out.below hV) (by omega))
          generalize zs.any (usedB (r : Int) ns) = ua at CU RFI NOI
          generalize zs.length = ZL at CU ⊢
          clear hr5 hf5 hb5 p2 r0 r1 r2 HR0 HR1 n0 n1 n2 KY
          go_wp2_with fail
          refine CU.out.mono ?_
          rintro e w6 ⟨rfl, hb6⟩
          have B6 : Hid (Below w.heap.size w w6) := B5.out.trans (hb6.out.mono B5.out.size)
          have C6 : Hid (Cnt w6 U i (usesTo (r : Int) ns i)) := C5.out.below hb6.out
          have p4 : w6.cell? ⟨UB, 0, none⟩ = some (.slice (some ⟨U, 0, none⟩) i i) := (hb6.out.cell (p := ⟨UB, 0, none⟩) (block_lt_of_cell p3)).trans p3
          clear p3 CU hb6
          cases ua
          · have NO2 : Hid (∀ q, q < j + 1 → (keysN (ns.getD q nd0)).any (usedB (r : Int) ns) = false) := NOI.out rfl
            go_wp2_with fail
            go_roundw
            case rel => exact ⟨j + 1, by omega, by go_num, B6.out, C6.out, NO2.out, p4⟩
            case measure => simp [intOf]; omega
          · have HF : Hid (R = false) := RFI.out rfl
            go_wp2_with fail
            go_ret
            exact ⟨by rw [HF.out]; rfl, B6.out⟩
        · obtain rfl : j = i := by omega
          have HF : Hid (R = true) := by
            show _ = _
            rw [HR2.out, List.all_eq_true]
            intro m hm
            obtain ⟨q, hq, rfl⟩ := List.getElem_of_mem hm
            have h9 := hno.out q (by rw [HN.out]; exact hq)
            rw [List.getD_eq_getElem?_getD, List.getElem?_eq_getElem hq] at h9
            simp only [Option.getD_some] at h9
            rw [h9]
            rfl
          go_wp2_with fail
          go_ret
          exact ⟨by rw [HF.out]; rfl, hb2.out⟩
end Go.Proofs.YtpgncjfmaeiaaaaDoor.Is
