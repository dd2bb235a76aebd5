/- The document's side: is a graph right. Conditions: texts and rows no longer than 10^6 where the graph is not too large. -/
import Derived.Test.YtpgncjfmaeiaaaaDoorIsRUses
set_option linter.unusedVariables false
namespace Go.Proofs.YtpgncjfmaeiaaaaDoor.Is
open Go.RowKit
theorem usesTo_root (root : Int) (ns : List Nd) (i k : Nat) : usesTo root ns i k = (if (k : Int) = root then 1 else 0) + usesTo (-1) ns i k := by
  have : ¬ ((k : Int) = -1) := by omega
  simp [usesTo, this]
theorem key_iff {ns : List Nd} (h : ns.all (nodeB ns) = true) (k : Int) : KeyTo ns ns.length k ↔ ∃ m ∈ ns, k ∈ keysN m := by
  have hall := List.all_eq_true.1 h
  have hev : ∀ m ∈ ns, m.kind = 6 → m.kids.length % 2 = 0 := fun m hm h6 => by
    have h1 := hall m hm
    unfold nodeB at h1
    simp only [Bool.and_eq_true] at h1
    have h9 := h1.2.2.2.2.1
    rw [decide_eq_true h6] at h9
    simp only [Bool.true_and, Bool.not_eq_true', decide_eq_false_iff_not] at h9
    omega
  constructor
  · rintro ⟨t, s, ht, h6, h1, h2⟩
    have hm : ns.getD t nd0 ∈ ns := getD_memD ht
    have he := hev _ hm h6
    refine ⟨_, hm, ?_⟩
    unfold keysN
    rw [if_pos h6, evens]
    exact List.mem_map.2 ⟨s, List.mem_range.2 (by omega), h2⟩
  · rintro ⟨m, hm, hk⟩
    obtain ⟨t, ht, e⟩ := List.mem_iff_getElem.1 hm
    have hg : ns.getD t nd0 = m := by
      rw [List.getD_eq_getElem?_getD, List.getElem?_eq_getElem ht, ← e]
      rfl
    unfold keysN at hk
    split at hk
    · rename_i h6
      unfold evens at hk
      obtain ⟨s, hs, e2⟩ := List.mem_map.1 hk
      have := List.mem_range.1 hs
      exact ⟨t, s, ht, by rw [hg]; exact h6, by rw [hg]; omega, by rw [hg]; exact e2⟩
    · cases hk
theorem le_sum {l : List Nat} {x : Nat} (h : x ∈ l) : x ≤ l.sum := by
  induction l with
  | nil => cases h
  | cons a l ih =>
    rw [List.sum_cons]
    rcases List.mem_cons.1 h with h | h
    · omega
    · have := ih h
      omega
theorem key_used {ns : List Nd} {k : Nat} (h : KeyTo ns ns.length (k : Int)) : 1 ≤ usesTo (-1) ns ns.length k := by
  obtain ⟨t, s, ht, h6, h1, h2⟩ := h
  have hc : 1 ≤ (ns.getD t nd0).kids.count (k : Int) := List.count_pos_iff.2 (by rw [← h2]; exact getD_mem h1)
  unfold usesTo
  rw [List.take_length]
  have := le_sum (List.mem_map.2 ⟨ns.getD t nd0, getD_memD ht, rfl⟩ : (ns.getD t nd0).kids.count (k : Int) ∈ ns.map fun m => m.kids.count (k : Int))
  omega
theorem used_iff {root : Int} {ns : List Nd} {k : Nat} (h : KeyTo ns ns.length (k : Int)) : usedB root ns (k : Int) = true ↔ (1 < usesTo (-1) ns ns.length k ∨ (k : Int) = root) := by
  have := key_used h
  unfold usedB
  rw [decide_eq_true_iff, Int.toNat_natCast, usesTo_root]
  split <;> omega
theorem right_true {root : Int} {ns : List Nd} (ha : ns.all (nodeB ns) = true) (h : ∀ q : Nat, q < ns.length → KeyTo ns ns.length (q : Int) → ¬ (1 < usesTo (-1) ns ns.length q ∨ (q : Int) = root)) : (ns.all fun m => !(keysN m).any (usedB root ns)) = true := by
  rw [List.all_eq_true]
  intro m hm
  rw [Bool.not_eq_true', List.any_eq_false]
  intro k hk
  have hr : 0 ≤ k ∧ k < ns.length := by
    have h1 := List.all_eq_true.1 ha m hm
    unfold nodeB at h1
    simp only [Bool.and_eq_true] at h1
    have h9 := h1.2.2.2.2.2.1
    simp only [Bool.not_eq_true', List.any_eq_false] at h9
    have h8 := h9 k (keys_mem hk)
    simp only [kidBad, Bool.or_eq_true, decide_eq_true_eq, not_or] at h8
    omega
  obtain ⟨q, rfl⟩ : ∃ q : Nat, k = (q : Int) := ⟨k.toNat, by omega⟩
  have hK := (key_iff ha (q : Int)).2 ⟨m, hm, hk⟩
  exact fun hu => h q (by omega) hK ((used_iff hK).1 hu)
theorem right_false {root : Int} {ns : List Nd} {q : Nat} (ha : ns.all (nodeB ns) = true) (hK : KeyTo ns ns.length (q : Int)) (h : 1 < usesTo (-1) ns ns.length q ∨ (q : Int) = root) : (ns.all fun m => !(keysN m).any (usedB root ns)) = false := by
  obtain ⟨m, hm, hk⟩ := (key_iff ha (q : Int)).1 hK
  rw [List.all_eq_false]
  refine ⟨m, hm, ?_⟩
  rw [List.any_eq_true.2 ⟨_, hk, (used_iff hK).2 h⟩]
  simp
set_option maxRecDepth 100000 in
set_option maxHeartbeats 6400000 in
theorem rright_any (g : Gv) (w : World) (G : GrIn w g) (hS : g.ns.length ≤ 4096 → ∀ m ∈ g.ns, m.txt.size ≤ 1000000 ∧ m.kids.length ≤ 1000000) :
    Calls Tryd.prog 21 #[g.val] w (BoolPost (rightN g) w) := by
  obtain ⟨A, c, ns, root⟩ := g
  unfold Gv.val
  simp only at hS ⊢
  obtain ⟨n, hn⟩ : ∃ n, n = ns.length := ⟨_, rfl⟩
  have HN := Lib.hid hn
  have HB0 : Hid (Below w.heap.size w (w.alloc (.cells #[.slice A n c, .int .i64 root] 24))) := ext_world w _
  have g0 : (w.alloc (.cells #[.slice A n c, .int .i64 root] 24)).cell? ⟨w.heap.size, 0, none⟩ = some (.slice A n c) := bcell (heap_new w _ _) 0
  have g1 : (w.alloc (.cells #[.slice A n c, .int .i64 root] 24)).cell? ⟨w.heap.size, 1, none⟩ = some (.int .i64 root) := bcell (heap_new w _ _) 1
  have hR : rightN ⟨A, c, ns, root⟩ = (decide (1 ≤ n) && (decide (n ≤ 4096) && (decide (0 ≤ root) && (decide (root < n) && (ns.all (nodeB ns) && ns.all fun m => !(keysN m).any (usedB root ns)))))) := by rw [hn]; rfl
  rw [hR]
  rw [← hn] at hS ⊢
  clear hR hn
  by_cases h1 : 1 ≤ n
  case neg =>
    rw [decide_eq_false h1]
    obtain rfl : n = 0 := by omega
    go_enter Tryd.func21, Tryd.ntmps21
    go_wp2_with fail
    go_ret
    exact ⟨rfl, HB0.out⟩
  have h1I : ¬ ((n : Int) < 1) := by omega
  by_cases h2 : n ≤ 4096
  case neg =>
    rw [decide_eq_true h1, decide_eq_false h2]
    have h2I : (4096 : Int) < (n : Int) := by omega
    go_enter Tryd.func21, Tryd.ntmps21
    go_wp2_with fail
    go_ret
    exact ⟨rfl, HB0.out⟩
  have h2I : ¬ ((4096 : Int) < (n : Int)) := by omega
  by_cases h3 : 0 ≤ root
  case neg =>
    rw [decide_eq_true h1, decide_eq_true h2, decide_eq_false h3]
    have h3I : root < 0 := by omega
    go_enter Tryd.func21, Tryd.ntmps21
    go_wp2_with fail
    go_ret
    exact ⟨rfl, HB0.out⟩
  have h3I : ¬ (root < 0) := by omega
  by_cases h4 : root < n
  case neg =>
    rw [decide_eq_true h1, decide_eq_true h2, decide_eq_true h3, decide_eq_false h4]
    have h4I : (n : Int) ≤ root := by omega
    go_enter Tryd.func21, Tryd.ntmps21
    go_wp2_with fail
    go_ret
    exact ⟨rfl, HB0.out⟩
  rw [decide_eq_true h1, decide_eq_true h2, decide_eq_true h3, decide_eq_true h4]
  simp only [Bool.true_and]
  have h4I : ¬ ((n : Int) ≤ root) := by omega
  have HS : Hid (∀ m ∈ ns, m.txt.size ≤ 1000000 ∧ m.kids.length ≤ 1000000) := hS h2
  have HG := Lib.hid G
  have ND : Hid (∀ i, i < n → ∀ W, Below w.heap.size w W → Calls Tryd.prog 31 #[.agg #[.slice A n c, .int .i64 root], (ns.getD i nd0).val] W (BoolPost (nodeB ns (ns.getD i nd0)) W)) := fun i hi W hb => by
    have h9 := rnode_any ⟨A, c, ns, root⟩ (ns.getD i nd0) W (G.below hb) ((G.kids _ (getD_memD (by show i < ns.length; rw [← HN.out]; exact hi))).below hb) (HS.out _ (getD_memD (by rw [← HN.out]; exact hi))).1 (HS.out _ (getD_memD (by rw [← HN.out]; exact hi))).2 (by show ns.length ≤ 4096; rw [← HN.out]; exact h2)
    unfold Gv.val at h9
    simp only at h9
    rw [← HN.out] at h9
    exact h9
  have US : Hid (ns.all (nodeB ns) = true → ∀ W, Below w.heap.size w W → Calls Tryd.prog 32 #[.agg #[.slice A n c, .int .i64 root]] W (UsesPost ns W)) := fun ha W hb => by
    have h9 := uses_any ⟨A, c, ns, root⟩ W (G.below hb) (by show ns.length ≤ 4096; rw [← HN.out]; exact h2) (fun m hm => (HS.out m hm).2) (fun m hm k hk => by
      have h1 := List.all_eq_true.1 ha m hm
      unfold nodeB at h1
      simp only [Bool.and_eq_true] at h1
      have h9 := h1.2.2.2.2.2.1
      simp only [Bool.not_eq_true', List.any_eq_false] at h9
      have h8 := h9 k hk
      simp only [kidBad, Bool.or_eq_true, decide_eq_true_eq, not_or] at h8
      show _ ∧ k < (ns.length : Int)
      omega)
    unfold Gv.val at h9
    simp only at h9
    rw [← HN.out] at h9
    exact h9
  obtain ⟨R, hR⟩ : ∃ R, R = (ns.all (nodeB ns) && ns.all fun m => !(keysN m).any (usedB root ns)) := ⟨_, rfl⟩
  rw [← hR]
  have HR := Lib.hid hR
  have HSRC : Hid (∀ i, i < n → KidsAt w (ns.getD i nd0)) := fun i hi => G.kids _ (getD_memD (by show i < ns.length; rw [← HN.out]; exact hi))
  clear hR G hS
  go_enter Tryd.func21, Tryd.ntmps21
  go_wp2_with fail
  go_loopw [3] (fun v wr => ∃ i : Nat, i ≤ n ∧ v = .int .i64 (i : Int) ∧ Hid (Below w.heap.size w wr) ∧ Hid (∀ j, j < i → nodeB ns (ns.getD j nd0) = true) ∧ wr.cell? ⟨w.heap.size, 0, none⟩ = some (.slice A n c) ∧ wr.cell? ⟨w.heap.size, 1, none⟩ = some (.int .i64 root)) (fun v _ => n - (intOf v).toNat)
  case atStart => exact ⟨0, Nat.zero_le _, rfl, HB0.out, fun j hj => absurd hj (Nat.not_lt_zero _), g0, g1⟩
  case round =>
    clear g0 g1 HB0
    obtain ⟨i, hi, rfl, hb, hno, g0, g1⟩ := hrel
    by_cases hlt : i < n
    · have hltI : (i : Int) < (n : Int) := by omega
      obtain ⟨bg, og, hA, hbl, n0, n1, n2⟩ := (HG.out.below hb.out).get i (by show i < ns.length; rw [← HN.out]; exact hlt)
      have NDI := Lib.hid (ND.out i hlt wr.drew hb.out.drew)
      have RFI : Hid (nodeB ns (ns.getD i nd0) = false → R = false) := fun h => by
        have : ns.all (nodeB ns) = false := by
          rw [List.all_eq_false]
          exact ⟨_, getD_memD (by rw [← HN.out]; exact hlt), by rw [h]; simp⟩
        rw [HR.out, this]
        rfl
      have NOI : Hid (nodeB ns (ns.getD i nd0) = true → ∀ j, j < i + 1 → nodeB ns (ns.getD j nd0) = true) := fun h j hj => by
        rcases Nat.lt_succ_iff_lt_or_eq.1 hj with e | e
        · exact hno.out j e
        · rw [e]; exact h
      simp only at hA n0 n1 n2
      generalize nodeB ns (ns.getD i nd0) = nok at NDI RFI NOI
      generalize ns.getD i nd0 = nd at n0 n1 n2 NDI
      obtain ⟨kind, txt, kids, ka, kc⟩ := nd
      unfold Nd.val at NDI
      simp only at n0 n1 n2 NDI
      generalize kids.length = KL at n2 NDI
      have HAA := Lib.hid hA
      rw [hA] at g0 NDI
      clear hA
      have VB : Hid (Below w.heap.size w wr.drew) := hb.out.drew
      go_wp2_with fail
      refine wp_region_still_tail 6 (by kernel_rfl) (by kernel_rfl) ?_
      simp only [List.take_succ_cons, List.take_zero, List.drop_succ_cons, List.drop_zero]
      change wpStill _ _ wr.drew _ _ _
      iterate 6 still_step
      refine wpStill_nil ?_
      change wpList _ _ _ _ _ wr.drew
      have d0 : wr.drew.cell? ⟨w.heap.size, 0, none⟩ = some (.slice (some ⟨bg, og, none⟩) n c) := g0
      have d1 : wr.drew.cell? ⟨w.heap.size, 1, none⟩ = some (.int .i64 root) := g1
      generalize wr.drew = W at NDI VB d0 d1 ⊢
      clear g0 g1 n0 n1 n2 hb
      cases nok with
      | false =>
        have HF := Lib.hid (RFI.out rfl)
        go_wp2_with (go_at_call 31; (with_reducible refine NDI.out.mono ?_); rintro e w8 ⟨rfl, hb8⟩; replace VB := Lib.hid (VB.out.trans (hb8.mono VB.out.size)))
        go_ret
        exact ⟨by rw [HF.out]; rfl, VB.out⟩
      | true =>
        have HN2 := Lib.hid (NOI.out rfl)
        go_wp2_with (go_at_call 31; (with_reducible refine NDI.out.mono ?_); rintro e w8 ⟨rfl, hb8⟩; replace VB := Lib.hid (VB.out.trans (hb8.mono VB.out.size)); replace d0 := (hb8.cell (p := ⟨w.heap.size, 0, none⟩) (block_lt_of_cell d0)).trans d0; replace d1 := (hb8.cell (p := ⟨w.heap.size, 1, none⟩) (block_lt_of_cell d1)).trans d1)
        go_roundw
        case rel => exact ⟨i + 1, by omega, by go_num, VB.out, HN2.out, by rw [HAA.out]; exact d0, d1⟩
        case measure => simp [intOf]; omega
    · obtain rfl : i = n := by omega
      have hltI : ¬ ((i : Int) < (i : Int)) := by omega
      have ALLN : Hid (ns.all (nodeB ns) = true) := by
        show _ = _
        rw [List.all_eq_true]
        intro m hm
        obtain ⟨j, hj, rfl⟩ := List.getElem_of_mem hm
        have h9 := hno.out j (by rw [HN.out]; exact hj)
        rw [List.getD_eq_getElem?_getD, List.getElem?_eq_getElem hj] at h9
        exact h9
      have HR2 : Hid (R = ns.all fun m => !(keysN m).any (usedB root ns)) := by
        show _ = _
        rw [HR.out, ALLN.out, Bool.true_and]
      have UU := Lib.hid (US.out ALLN.out wr hb.out)
      unfold UsesPost at UU
      rw [← HN.out] at UU
      clear hno HR ND US
      go_wp2_with (go_at_call 32; (with_reducible refine UU.out.mono ?_); rintro e w8 ⟨U, V, rfl, hcu, hfu, hb8⟩; have CU := Lib.hid hcu; have FU := Lib.hid hfu; clear hcu hfu; replace hb := Lib.hid (hb.out.trans (hb8.mono hb.out.size)); replace g0 := (hb8.cell (p := ⟨w.heap.size, 0, none⟩) (block_lt_of_cell g0)).trans g0; replace g1 := (hb8.cell (p := ⟨w.heap.size, 1, none⟩) (block_lt_of_cell g1)).trans g1; clear hb8)
      go_loopw [6] (fun v wz => ∃ q : Nat, q ≤ i ∧ v = .int .i64 (q : Int) ∧ wz = w8 ∧ Hid (∀ j : Nat, j < q → KeyTo ns ns.length (j : Int) → ¬ (1 < usesTo (-1) ns ns.length j ∨ (j : Int) = root))) (fun v _ => i - (intOf v).toNat)
      case atStart => exact ⟨0, Nat.zero_le _, rfl, rfl, fun j hj => absurd hj (Nat.not_lt_zero _)⟩
      case round =>
        obtain ⟨q, hq, rfl, rfl, hno⟩ := hrel
        by_cases hqi : q < i
        · have hqI : (q : Int) < (i : Int) := by omega
          obtain ⟨kb, vc, hkb, _⟩ := FU.out.cell hqi
          have uc := CU.out.cell hqi
          have HNX : Hid (¬ (KeyTo ns ns.length (q : Int) ∧ (1 < usesTo (-1) ns ns.length q ∨ (q : Int) = root)) → ∀ j : Nat, j < q + 1 → KeyTo ns ns.length (j : Int) → ¬ (1 < usesTo (-1) ns ns.length j ∨ (j : Int) = root)) := fun h j hj hK hx => by
            rcases Nat.lt_succ_iff_lt_or_eq.1 hj with e | e
            · exact hno.out j e hK hx
            · subst e; exact h ⟨hK, hx⟩
          have HBAD : Hid (KeyTo ns ns.length (q : Int) → (1 < usesTo (-1) ns ns.length q ∨ (q : Int) = root) → R = false) := fun hK hx => by
            rw [HR2.out]
            exact right_false ALLN.out hK hx
          rw [HN.out] at hkb
          have HKB := Lib.hid hkb
          rw [HN.out] at uc
          generalize usesTo (-1) ns ns.length q = T at uc HNX HBAD
          clear hkb
          cases kb with
          | false =>
            have HN2 := Lib.hid (HNX.out (fun h => by have := HKB.out.2 h.1; cases this))
            clear HNX HBAD
            go_wp2_with fail
            go_roundw
            case rel => exact ⟨q + 1, by omega, by go_num, trivial, HN2.out⟩
            case measure => simp [intOf]; omega
          | true =>
            by_cases hT : 1 < T
            · have hTI : (1 : Int) < (T : Int) := by omega
              have HF := Lib.hid (HBAD.out (HKB.out.1 rfl) (Or.inl hT))
              clear HNX HBAD
              go_wp2_with fail
              go_ret
              exact ⟨by rw [HF.out]; rfl, hb.out⟩
            · have hTI : ¬ ((1 : Int) < (T : Int)) := by omega
              by_cases hr : (q : Int) = root
              · have hrI : ((q : Int) == root) = true := by rw [beq_iff_eq]; exact hr
                have HF := Lib.hid (HBAD.out (HKB.out.1 rfl) (Or.inr hr))
                clear HNX HBAD hr hT
                go_wp2_with fail
                go_ret
                exact ⟨by rw [HF.out]; rfl, hb.out⟩
              · have hrI : ((q : Int) == root) = false := by rw [beq_eq_false_iff_ne]; exact hr
                have HN2 := Lib.hid (HNX.out (fun h => by rcases h.2 with h | h; exact hT h; exact hr h))
                clear HNX HBAD hr hT
                go_wp2_with fail
                go_roundw
                case rel => exact ⟨q + 1, by omega, by go_num, trivial, HN2.out⟩
                case measure => simp [intOf]; omega
        · obtain rfl : q = i := by omega
          have hqI : ¬ ((q : Int) < (q : Int)) := by omega
          have HT : Hid (R = true) := by
            show _ = _
            rw [HR2.out]
            exact right_true ALLN.out (fun j hj => hno.out j (by rw [HN.out]; exact hj))
          go_wp2_with fail
          go_ret
          exact ⟨by rw [HT.out]; rfl, hb.out⟩
end Go.Proofs.YtpgncjfmaeiaaaaDoor.Is
