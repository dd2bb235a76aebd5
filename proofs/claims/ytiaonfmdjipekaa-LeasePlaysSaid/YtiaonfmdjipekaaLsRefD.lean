/- The document's queue: Put. Conditions: rows that lie. -/
import Derived.Test.YtiaonfmdjipekaaLsRefC
set_option linter.unusedVariables false
namespace Go.Proofs.Ytiaonfmdjipekaa.Ls
open Go.RowKit Go.Maps
theorem ins_at {M : List Pr} {p : Pr} (hs : M.Pairwise ltP) (hx : p.1 ∉ ids M) {k : Nat} (hk : k ≤ M.length) (h1 : ∀ j, j < k → ltP (M.getD j (0, 0)) p) (h2 : k < M.length → ¬ ltP (M.getD k (0, 0)) p) : M.take k ++ [p] ++ M.drop k = insP p M := by
  refine sorted_unique ?_ ?_ (insP_sorted _ _ hs hx)
  · refine List.Perm.trans ?_ (insP_perm p M).symm
    rw [List.append_assoc]
    refine (List.perm_middle (a := p) (l₁ := M.take k) (l₂ := M.drop k)).trans ?_
    rw [List.take_append_drop]
  · have hsp : (M.take k ++ M.drop k).Pairwise ltP := by rw [List.take_append_drop]; exact hs
    rw [List.pairwise_append] at hsp
    have ht : ∀ a ∈ M.take k, ltP a p := fun a ha => by
      obtain ⟨i, hi, rfl⟩ := List.getElem_of_mem ha
      rw [List.length_take] at hi
      have := h1 i (by omega)
      rw [List.getD_eq_getElem?_getD, List.getElem?_eq_getElem (by omega)] at this
      simpa using this
    have hd : ∀ b ∈ M.drop k, ltP p b := by
      by_cases hkl : k < M.length
      · have h3 := h2 hkl
        have hne : (M.getD k (0, 0)).1 ≠ p.1 := fun e => hx (e ▸ List.mem_map.2 ⟨M.getD k (0, 0), by rw [List.getD_eq_getElem?_getD, List.getElem?_eq_getElem hkl]; exact List.getElem_mem hkl, rfl⟩)
        have h4 : ltP p (M.getD k (0, 0)) := ltP_total hne h3
        rw [drop_at hkl] at hsp ⊢
        intro b hb
        rcases List.mem_cons.1 hb with rfl | hb
        · exact h4
        · exact ltP_trans h4 ((List.pairwise_cons.1 hsp.2.1).1 b hb)
      · rw [List.drop_of_length_le (by omega)]
        intro b hb
        cases hb
    rw [List.append_assoc, List.pairwise_append]
    refine ⟨hsp.1, List.pairwise_cons.2 ⟨hd, hsp.2.1⟩, fun a ha b hb => ?_⟩
    rcases List.mem_cons.1 hb with rfl | hb
    · exact ht a ha
    · exact hsp.2.2 a ha b hb
/-- the list without the number, whether it was there or not -/
theorem without_z (w : World) (r : Nat) (A : Option Addr) (c : Nat) (L : List Pr) (Q : RQ w r A c L) (x : Int) (hl : L.length ≤ 1024) (hn : (ids L).Nodup) (hA : ∀ b off, A = some ⟨b, off, none⟩ → b < w.heap.size) {m : Nat} (hm : (remP x L).length = m) :
    ∀ V, Below w.heap.size w V → Calls Try.prog 43 #[.slice A L.length c, .int .i64 (findZ L x)] V fun e w' => ∃ A1 c1, e = .returned (.slice A1 m c1) ∧ Hid (PrsAt w' A1 c1 (remP x L)) ∧ Hid (Below w.heap.size w w') := fun V hV => by
  rcases findZ_cases L x with ⟨hz, hx⟩ | ⟨k, hz, hk, hx, hm2⟩
  · rw [hz]
    refine (without_none V A L.length c).mono ?_
    rintro e w' ⟨rfl, rfl⟩
    rw [remP_none hx] at hm ⊢
    exact ⟨A, c, by rw [hm], Q.row.below hV, hV⟩
  · rw [hz]
    refine (without_any V A c L (Q.row.below hV) k hk hl).mono ?_
    rintro e w' ⟨A', c', rfl, h1, h2, h3⟩
    rw [cut_remP hn hk hx] at h1
    have hlen : L.length - 1 = m := by have := remP_len hn hm2; omega
    exact ⟨A', c', by rw [hlen], h1, hV.trans (h3.out.mono hV.size)⟩
theorem at_w (w : World) {P : Program} {o : Oper} {a : Act} {K : Act → World → Prop} {Q : Exit → Act → World → Prop} {E : Prop} {C : Prop} [Decidable C] (h : if C then Oper.wp P o a w K Q else E) : if C then Oper.wp P o a w K Q else E := h
theorem PrsAt.one {W : World} {g : Nat} {x t : Int} (h : W.heap[g]? = some (.cells #[.int .i64 x, .int .i64 t] 77 (0, 0))) : PrsAt W (some ⟨g, 0, none⟩) 1 [(x, t)] :=
  ⟨fun i hi => by
    obtain rfl : i = 0 := by simpa using hi
    exact ⟨g, 0, rfl, blt h, bcell h 0, bcell h 1⟩, Nat.le_refl _, Or.inr ⟨g, 0, rfl⟩⟩
set_option maxRecDepth 100000 in
theorem rput_one (w : World) (r : Nat) (A : Option Addr) (c : Nat) (L : List Pr) (Q : RQ w r A c L) (x t : Int) (hx : x < 1) (hA : ∀ b off, A = some ⟨b, off, none⟩ → b < w.heap.size) :
    Calls Try.prog 34 #[.pointer (some ⟨r, 0, none⟩), .int .i64 x, .int .i64 t] w fun e w' => e = .returned (.int .i64 (putC L x)) ∧ Hid (RPost w r A (putR L x t) w') := by
  have e1 : putC L x = 1 := if_pos hx
  have e2 : putR L x t = L := if_pos hx
  rw [e1, e2]
  have QH := Lib.hid Q
  clear Q e1 e2
  go_enter Try.func34, Try.ntmps34
  go_wp2_with fail
  go_ret
  exact ⟨rfl, A, c, QH.out, fun b off e => ⟨Or.inr ⟨off, e⟩, hA b off e⟩, Turn.refl _ _⟩
set_option maxRecDepth 100000 in
set_option maxHeartbeats 6400000 in
theorem rput_more (w : World) (r : Nat) (A : Option Addr) (c : Nat) (L : List Pr) (Q : RQ w r A c L) (x t : Int) (hx : ¬ x < 1) (hl : L.length ≤ 1024) (hn : (ids L).Nodup) (hs : L.Pairwise ltP) (hA : ∀ b off, A = some ⟨b, off, none⟩ → b < w.heap.size) :
    Calls Try.prog 34 #[.pointer (some ⟨r, 0, none⟩), .int .i64 x, .int .i64 t] w fun e w' => e = .returned (.int .i64 (putC L x)) ∧ Hid (RPost w r A (putR L x t) w') := by
  obtain ⟨m, hm⟩ : ∃ m, (remP x L).length = m := ⟨_, rfl⟩
  have c0 := bcell Q.box 0
  have f0 := bfree Q.box 0
  have hrl := blt Q.box
  have QH := Lib.hid Q
  have FI : Hid (∀ V, Below w.heap.size w V → Calls Try.prog 35 #[.pointer (some ⟨r, 0, none⟩), .int .i64 x] V fun e w' => e = .returned (.int .i64 (findZ L x)) ∧ Hid (Below w.heap.size w w')) := fun V hV => (find_any V r A c L (Q.below hV) x hl).mono fun e w' ⟨h1, h2⟩ => ⟨h1, by rw [← h2]; exact hV⟩
  have WO := Lib.hid (without_z w r A c L Q x hl hn hA hm)
  have CC : Hid (∀ V, Below w.heap.size w V → V.cell? ⟨r, 0, none⟩ = some (.slice A L.length c) ∧ V.frozen? ⟨r, 0, none⟩ = false) := fun V hV => ⟨(hV.cell (p := ⟨r, 0, none⟩) hrl).trans c0, (hV.frozen (p := ⟨r, 0, none⟩) hrl).trans f0⟩
  have D0 : Hid (Below w.heap.size w w.drew) := (Below.refl _ _).drew
  have hnx := remP_not L x
  have hsM := remP_sorted hs x
  have hcase : (1024 ≤ m ∧ putC L x = 5 ∧ putR L x t = L) ∨ (m < 1024 ∧ putC L x = 0 ∧ putR L x t = insP (x, t) (remP x L)) := by
    unfold putC putR
    rw [if_neg hx, if_neg hx]
    by_cases hxm : x ∈ ids L
    · right
      rw [if_pos hxm, if_pos hxm]
      have := remP_len hn hxm
      exact ⟨by omega, rfl, rfl⟩
    · rw [if_neg hxm, if_neg hxm]
      rw [remP_none hxm] at hm ⊢
      by_cases h4 : L.length = 1024
      · left
        rw [if_pos h4, if_pos h4]
        exact ⟨by omega, rfl, rfl⟩
      · right
        rw [if_neg h4, if_neg h4]
        exact ⟨by omega, rfl, rfl⟩
  have HM := Lib.hid hm
  have HNX := Lib.hid hnx
  have HSM := Lib.hid hsM
  have HA := Lib.hid hA
  have SETQ : Hid (∀ (w1 : World) (A' : Option Addr) (c' : Nat) (M : List Pr), Below w.heap.size w w1 → PrsAt w1 A' c' M → (∀ b off, A' = some ⟨b, off, none⟩ → w.heap.size ≤ b ∧ b < w1.heap.size) → RPost w r A M (w1.setCell ⟨r, 0, none⟩ (.slice A' M.length c'))) := fun w1 A' c' M hb hp hA => RPost.of_set QH.out hb hp fun b off e => ⟨Or.inl (hA b off e).1, by have := (hA b off e).1; omega, (hA b off e).2⟩
  clear Q hm hnx hsM hn hs hA
  generalize findZ L x = z at FI WO
  generalize remP x L = M at WO HM HNX HSM hcase
  obtain ⟨n, hnn⟩ : ∃ n, n = L.length := ⟨_, rfl⟩
  rw [← hnn] at c0 WO CC
  clear hnn hl
  rcases hcase with ⟨h1, h2, h3⟩ | ⟨h1, h2, h3⟩
  · rw [h2, h3]
    clear h2 h3
    go_enter Try.func34, Try.ntmps34
    go_wp2_with fail
    go_region_held3 (fun w' => w'.cell? ⟨r, 0, none⟩ = some (.slice A n c))
      (first
        | go_keep
        | exact (CC.out _ ba.out).1
        | exact (CC.out _ bb.out).1)
      (first
        | (go_at_call 35; (with_reducible refine (FI.out _ D0.out).mono ?_); rintro e wa ⟨rfl, ba⟩)
        | (go_at_call 43; (with_reducible refine (WO.out _ ba.out).mono ?_); rintro e wb ⟨A1, c1, rfl, pb, bb⟩)
        | fail)
    have PM := pb
    have BB := bb
    have NB := bb.out.size
    clear pb bb ba FI WO D0 c0 f0
    have hI : (1024 : Int) ≤ (m : Int) := by omega
    have hI2 : ¬ ((m : Int) < 1024) := by omega
    have HQ : Hid (RPost w r A L wb) := ⟨A, c, QH.out.below BB.out, fun b off e => ⟨Or.inr ⟨off, e⟩, Nat.lt_of_lt_of_le (HA.out b off e) BB.out.size⟩, Turn.of_below BB.out⟩
    clear SETQ PM
    go_wp2_with fail
    go_ret
    exact ⟨rfl, HQ.out⟩
  rw [h2, h3]
  clear h2 h3
  go_enter Try.func34, Try.ntmps34
  go_wp2_with fail
  go_region_held3 (fun w' => w'.cell? ⟨r, 0, none⟩ = some (.slice A n c))
    (first
      | go_keep
      | exact (CC.out _ ba.out).1
      | exact (CC.out _ bb.out).1)
    (first
      | (go_at_call 35; (with_reducible refine (FI.out _ D0.out).mono ?_); rintro e wa ⟨rfl, ba⟩)
      | (go_at_call 43; (with_reducible refine (WO.out _ ba.out).mono ?_); rintro e wb ⟨A1, c1, rfl, pb, bb⟩)
      | fail)
  have PM := pb
  have BB := bb
  have NB := bb.out.size
  clear pb bb ba FI WO D0 c0 f0
  have hI : ¬ ((1024 : Int) ≤ (m : Int)) := by omega
  have hI2 : (m : Int) < 1024 := by omega
  go_wp2_with fail
  go_loop [8] (fun v => ∃ k : Nat, k ≤ m ∧ v = .int .i64 (k : Nat) ∧ Hid (∀ j, j < k → ltP (M.getD j (0, 0)) (x, t))) (fun v => m - (intOf v).toNat)
  case atStart => exact ⟨0, Nat.zero_le _, rfl, fun j hj => absurd hj (Nat.not_lt_zero _)⟩
  case round =>
    obtain ⟨k, hk, rfl, hlt⟩ := hrel
    have hend : Hid ((k < m → ¬ ltP (M.getD k (0, 0)) (x, t)) → M.take k ++ [(x, t)] ++ M.drop k = insP (x, t) M) := fun h => ins_at HSM.out HNX.out (by rw [HM.out]; exact hk) hlt.out (by rw [HM.out]; exact h)
    by_cases hkm' : k < m
    · obtain ⟨b, off, hAe, hbl, hc0, hc1⟩ := PM.out.get k (by rw [HM.out]; exact hkm')
      have hkI : (k : Int) < (m : Int) := by omega
      have NX : Hid (ltP (M.getD k (0, 0)) (x, t) → ∀ j, j < k + 1 → ltP (M.getD j (0, 0)) (x, t)) := fun h j hj => by
        rcases Nat.lt_or_ge j k with h1 | h1
        · exact hlt.out j h1
        · have : j = k := by omega
          subst this; exact h
      have LT : Hid (ltP (M.getD k (0, 0)) (x, t) ↔ (M.getD k (0, 0)).2 < t ∨ (M.getD k (0, 0)).2 = t ∧ (M.getD k (0, 0)).1 < x) := Iff.rfl
      subst hAe
      obtain ⟨pi, hpi⟩ : ∃ p, p = M.getD k (0, 0) := ⟨_, rfl⟩
      rw [← hpi] at hc0 hc1 NX LT hend
      obtain ⟨i, u⟩ := pi
      simp only at hc0 hc1 LT
      by_cases hu : u < t
      · have HN := Lib.hid (NX.out (LT.out.2 (Or.inl hu)))
        clear NX LT hend hlt hpi
        go_wp2_with fail
        go_round
        case rel => exact ⟨k + 1, by omega, by go_num, HN.out⟩
        case measure => simp [intOf]; omega
      · by_cases hut : u = t
        · have hq : (u == t) = true := by simp [hut]
          by_cases hix : i < x
          · have HN := Lib.hid (NX.out (LT.out.2 (Or.inr ⟨hut, hix⟩)))
            clear NX LT hend hlt hpi hut
            go_wp2_with fail
            go_round
            case rel => exact ⟨k + 1, by omega, by go_num, HN.out⟩
            case measure => simp [intOf]; omega
          · have INS := Lib.hid (hend.out fun _ h => by rcases LT.out.1 h with h | ⟨_, h⟩ <;> omega)
            clear NX LT hend hlt hpi hut
            go_wp2_with fail
            have SL1 := sl_to (some ⟨b, off, none⟩) m c1 k (by have h1 := PM.out.cap; have h2 := HM.out; omega) (PM.out.form.imp (fun h => h.1) id)
            have SL2 := sl_from (some ⟨b, off, none⟩) m c1 k (by omega)
            have TK : Hid ((M.take k).length = k) := by show _ = _; rw [List.length_take, HM.out]; omega
            have DK : Hid ((M.drop k).length = m - k) := by show _ = _; rw [List.length_drop, HM.out]
            have G1 := Lib.hid (PM.out.take k)
            have G2 := Lib.hid (PM.out.drop k (by rw [HM.out]; omega))
            have hkc : (k : Int) ≤ (c1 : Int) := by have := PM.out.cap; rw [HM.out] at this; omega
            have hk0 : (0 : Int) ≤ (k : Int) := by omega
            have hkm : (k : Int) ≤ (m : Int) := by omega
            have hk2 : k ≤ 2000000 := by omega
            have hmk : m - k ≤ 2000000 := by omega
            have hbb := BB.out.size
            have O0 : Hid (∀ W : World, ∀ base, W.ownsRow base 77 2 (.slice none 0 0) 0 (prVs [])) := fun W base => World.ownsRow_nil _ _ _ _
            have E9 : Hid (M.take k ++ [(x, t)] ++ M.drop k = insP (x, t) M) := INS
            have FIN : Hid (∀ w3 v3, w3.ownsRow wb.heap.size 77 2 v3 (0 + k + 1 + (m - k)) (prVs ([] ++ M.take k ++ [(x, t)] ++ M.drop k)) → Below wb.heap.size wb w3 → RPost w r A (insP (x, t) M) (w3.setCell ⟨r, 0, none⟩ v3)) := fun w3 v3 ho hb => by
              have e : [] ++ M.take k ++ [(x, t)] ++ M.drop k = insP (x, t) M := by rw [List.nil_append]; exact E9.out
              have hlI : (insP (x, t) M).length = 0 + k + 1 + (m - k) := by rw [(insP_perm _ _).length_eq, List.length_cons, HM.out]; omega
              rw [e] at ho
              obtain ⟨A', c', e1, h1, h2⟩ := own_prs ho hlI
              rw [e1, ← hlI]
              exact SETQ.out w3 A' c' _ (BB.out.trans (hb.mono hbb)) h1 fun b off e => ⟨Nat.le_trans hbb (h2 b off e).1, (h2 b off e).2⟩
            have C3 : Hid (∀ w3, Below wb.heap.size wb w3 → w3.cell? ⟨r, 0, none⟩ = some (.slice A n c) ∧ w3.frozen? ⟨r, 0, none⟩ = false) := fun w3 hb => CC.out _ (BB.out.trans (hb.mono hbb))
            go_region_law
              (first
                | ((with_reducible refine at_w w2 ?_); (refine step_append_prs (by rfl) _ _ (by rfl) wb.heap.size v2 (0 + k + 1) ([] ++ M.take k ++ [(x, t)]) (by simp [Act.eval]) O2.out (subA (some ⟨b, off, none⟩) k c1) (m - k) (c1 - k) (M.drop k) (by simp [Act.eval]) DK.out (G2.out.below B2.out) (by omega) hmk B2.out.size ?_; intro v3 w3 o3 b3; have O3 := Lib.hid o3; have B3 := Lib.hid (B2.out.trans b3); obtain ⟨c3, f3⟩ := C3.out _ B3.out; obtain ⟨A9, c9, e9, _, _⟩ := own_prs (l := [] ++ M.take k ++ [(x, t)] ++ M.drop k) o3 (by rw [List.length_append, DK.out, List.length_append, List.nil_append, TK.out]; simp <;> omega); subst e9; clear o3 b3))
                | ((with_reducible refine at_w (w1.alloc _) ?_); (refine step_append_prs (by rfl) _ _ (by rfl) wb.heap.size v1 (0 + k) ([] ++ M.take k) (by simp [Act.eval]) (ownB o1.out ((Below.refl _ _).alloc (Nat.le_refl _) _)) (some ⟨w1.heap.size, 0, none⟩) 1 1 [(x, t)] (by simp [Act.eval]) rfl (PrsAt.one (heap_new w1 _ _)) (by omega) (by omega) (by have := b1.out.size; simp; omega) ?_; intro v2 w2 o2 b2; have O2 := Lib.hid o2; have B2 : Hid (Below wb.heap.size wb w2) := (b1.out.alloc b1.out.size _).trans b2; clear o2 b2 b1 o1))
                | ((with_reducible refine at_w w1 ?_); (refine step_append_prs (by rfl) _ _ (by rfl) (wb.heap.size + 1) v1 (0 + k) ([] ++ M.take k) (by simp [Act.eval]) p1.out (some ⟨wb.heap.size, 0, none⟩) 1 1 [(x, t)] (by simp [Act.eval]) rfl (PrsAt.one ((q1.out.block _ (Nat.lt_succ_self _)).trans (heap_new wb _ _))) (by omega) (by omega) (by have := q1.out.size; simp at this; omega) ?_; intro v2 w2 o2 b2; have O2 := Lib.hid (own_base (b' := wb.heap.size) o2 (by omega)); have B2 : Hid (Below wb.heap.size wb w2) := ((((Below.refl _ _).alloc (Nat.le_refl _) _).drew.trans (q1.out.mono (Nat.le_succ _))).trans (b2.mono (Nat.le_succ _))); clear o2 b2 q1 p1))
                | ((with_reducible refine at_w wb.drew ?_); (refine step_append_prs (by rfl) _ _ (by rfl) wb.heap.size (.slice none 0 0) 0 [] (by rfl) (O0.out _ _) (some ⟨b, off, none⟩) k c1 (M.take k) (by simp [Act.eval, Act.put]) TK.out (G1.out.below (Below.refl _ _).drew) (by omega) hk2 (Nat.le_refl _) ?_; intro v1 w1 o1' b1'; have o1 := Lib.hid o1'; have b1 : Hid (Below wb.heap.size wb w1) := (Below.refl _ _).drew.trans b1'; clear o1' b1'))
                | ((with_reducible refine at_w ((wb.alloc _).drew) ?_); (refine step_append_prs (by rfl) _ _ (by rfl) (wb.heap.size + 1) (.slice none 0 0) 0 [] (by rfl) (O0.out _ _) (some ⟨b, off, none⟩) k c1 (M.take k) (by simp [Act.eval, Act.put]) TK.out (G1.out.below ((Below.refl _ _).alloc (Nat.le_refl _) _).drew) (by omega) hk2 (by simp) ?_; intro v1 w1 p1' q1'; have p1 := Lib.hid p1'; have q1 := Lib.hid q1'; clear p1' q1'))
                | fail)
            all_goals
              have FF := Lib.hid (FIN.out _ _ O3.out B3.out)
              clear FIN C3 O3 B3
              go_wp2_with fail
              go_ret
              have h9 := FF.out
              first
                | exact ⟨rfl, h9⟩
                | (rw [show 0 + k + 1 + (m - k) = k + 1 by omega] at h9; exact ⟨rfl, h9⟩)
                | (rw [show 0 + k + 1 + (m - k) = k + 1 + (m - k) by omega] at h9; exact ⟨rfl, h9⟩)
        · have hq : (u == t) = false := by simp [hut]
          have INS := Lib.hid (hend.out fun _ h => by rcases LT.out.1 h with h | ⟨h, _⟩ <;> omega)
          clear NX LT hend hlt hpi hut
          go_wp2_with fail
          have SL1 := sl_to (some ⟨b, off, none⟩) m c1 k (by have h1 := PM.out.cap; have h2 := HM.out; omega) (PM.out.form.imp (fun h => h.1) id)
          have SL2 := sl_from (some ⟨b, off, none⟩) m c1 k (by omega)
          have TK : Hid ((M.take k).length = k) := by show _ = _; rw [List.length_take, HM.out]; omega
          have DK : Hid ((M.drop k).length = m - k) := by show _ = _; rw [List.length_drop, HM.out]
          have G1 := Lib.hid (PM.out.take k)
          have G2 := Lib.hid (PM.out.drop k (by rw [HM.out]; omega))
          have hkc : (k : Int) ≤ (c1 : Int) := by have := PM.out.cap; rw [HM.out] at this; omega
          have hk0 : (0 : Int) ≤ (k : Int) := by omega
          have hkm : (k : Int) ≤ (m : Int) := by omega
          have hk2 : k ≤ 2000000 := by omega
          have hmk : m - k ≤ 2000000 := by omega
          have hbb := BB.out.size
          have O0 : Hid (∀ W : World, ∀ base, W.ownsRow base 77 2 (.slice none 0 0) 0 (prVs [])) := fun W base => World.ownsRow_nil _ _ _ _
          have E9 : Hid (M.take k ++ [(x, t)] ++ M.drop k = insP (x, t) M) := INS
          have FIN : Hid (∀ w3 v3, w3.ownsRow wb.heap.size 77 2 v3 (0 + k + 1 + (m - k)) (prVs ([] ++ M.take k ++ [(x, t)] ++ M.drop k)) → Below wb.heap.size wb w3 → RPost w r A (insP (x, t) M) (w3.setCell ⟨r, 0, none⟩ v3)) := fun w3 v3 ho hb => by
            have e : [] ++ M.take k ++ [(x, t)] ++ M.drop k = insP (x, t) M := by rw [List.nil_append]; exact E9.out
            have hlI : (insP (x, t) M).length = 0 + k + 1 + (m - k) := by rw [(insP_perm _ _).length_eq, List.length_cons, HM.out]; omega
            rw [e] at ho
            obtain ⟨A', c', e1, h1, h2⟩ := own_prs ho hlI
            rw [e1, ← hlI]
            exact SETQ.out w3 A' c' _ (BB.out.trans (hb.mono hbb)) h1 fun b off e => ⟨Nat.le_trans hbb (h2 b off e).1, (h2 b off e).2⟩
          have C3 : Hid (∀ w3, Below wb.heap.size wb w3 → w3.cell? ⟨r, 0, none⟩ = some (.slice A n c) ∧ w3.frozen? ⟨r, 0, none⟩ = false) := fun w3 hb => CC.out _ (BB.out.trans (hb.mono hbb))
          go_region_law
            (first
              | ((with_reducible refine at_w w2 ?_); (refine step_append_prs (by rfl) _ _ (by rfl) wb.heap.size v2 (0 + k + 1) ([] ++ M.take k ++ [(x, t)]) (by simp [Act.eval]) O2.out (subA (some ⟨b, off, none⟩) k c1) (m - k) (c1 - k) (M.drop k) (by simp [Act.eval]) DK.out (G2.out.below B2.out) (by omega) hmk B2.out.size ?_; intro v3 w3 o3 b3; have O3 := Lib.hid o3; have B3 := Lib.hid (B2.out.trans b3); obtain ⟨c3, f3⟩ := C3.out _ B3.out; obtain ⟨A9, c9, e9, _, _⟩ := own_prs (l := [] ++ M.take k ++ [(x, t)] ++ M.drop k) o3 (by rw [List.length_append, DK.out, List.length_append, List.nil_append, TK.out]; simp <;> omega); subst e9; clear o3 b3))
              | ((with_reducible refine at_w (w1.alloc _) ?_); (refine step_append_prs (by rfl) _ _ (by rfl) wb.heap.size v1 (0 + k) ([] ++ M.take k) (by simp [Act.eval]) (ownB o1.out ((Below.refl _ _).alloc (Nat.le_refl _) _)) (some ⟨w1.heap.size, 0, none⟩) 1 1 [(x, t)] (by simp [Act.eval]) rfl (PrsAt.one (heap_new w1 _ _)) (by omega) (by omega) (by have := b1.out.size; simp; omega) ?_; intro v2 w2 o2 b2; have O2 := Lib.hid o2; have B2 : Hid (Below wb.heap.size wb w2) := (b1.out.alloc b1.out.size _).trans b2; clear o2 b2 b1 o1))
              | ((with_reducible refine at_w w1 ?_); (refine step_append_prs (by rfl) _ _ (by rfl) (wb.heap.size + 1) v1 (0 + k) ([] ++ M.take k) (by simp [Act.eval]) p1.out (some ⟨wb.heap.size, 0, none⟩) 1 1 [(x, t)] (by simp [Act.eval]) rfl (PrsAt.one ((q1.out.block _ (Nat.lt_succ_self _)).trans (heap_new wb _ _))) (by omega) (by omega) (by have := q1.out.size; simp at this; omega) ?_; intro v2 w2 o2 b2; have O2 := Lib.hid (own_base (b' := wb.heap.size) o2 (by omega)); have B2 : Hid (Below wb.heap.size wb w2) := ((((Below.refl _ _).alloc (Nat.le_refl _) _).drew.trans (q1.out.mono (Nat.le_succ _))).trans (b2.mono (Nat.le_succ _))); clear o2 b2 q1 p1))
              | ((with_reducible refine at_w wb.drew ?_); (refine step_append_prs (by rfl) _ _ (by rfl) wb.heap.size (.slice none 0 0) 0 [] (by rfl) (O0.out _ _) (some ⟨b, off, none⟩) k c1 (M.take k) (by simp [Act.eval, Act.put]) TK.out (G1.out.below (Below.refl _ _).drew) (by omega) hk2 (Nat.le_refl _) ?_; intro v1 w1 o1' b1'; have o1 := Lib.hid o1'; have b1 : Hid (Below wb.heap.size wb w1) := (Below.refl _ _).drew.trans b1'; clear o1' b1'))
              | ((with_reducible refine at_w ((wb.alloc _).drew) ?_); (refine step_append_prs (by rfl) _ _ (by rfl) (wb.heap.size + 1) (.slice none 0 0) 0 [] (by rfl) (O0.out _ _) (some ⟨b, off, none⟩) k c1 (M.take k) (by simp [Act.eval, Act.put]) TK.out (G1.out.below ((Below.refl _ _).alloc (Nat.le_refl _) _).drew) (by omega) hk2 (by simp) ?_; intro v1 w1 p1' q1'; have p1 := Lib.hid p1'; have q1 := Lib.hid q1'; clear p1' q1'))
              | fail)
          all_goals
            have FF := Lib.hid (FIN.out _ _ O3.out B3.out)
            clear FIN C3 O3 B3
            go_wp2_with fail
            go_ret
            have h9 := FF.out
            first
              | exact ⟨rfl, h9⟩
              | (rw [show 0 + k + 1 + (m - k) = k + 1 by omega] at h9; exact ⟨rfl, h9⟩)
              | (rw [show 0 + k + 1 + (m - k) = k + 1 + (m - k) by omega] at h9; exact ⟨rfl, h9⟩)
    · obtain rfl : k = m := by omega
      have INS := Lib.hid (hend.out fun h => absurd h (Nat.lt_irrefl _))
      clear hend hlt
      go_wp2_with fail
      have SL1 := sl_to A1 k c1 k (by have h1 := PM.out.cap; have h2 := HM.out; omega) (PM.out.form.imp (fun h => h.1) id)
      have SL2 := sl_from A1 k c1 k (by omega)
      have TK : Hid ((M.take k).length = k) := by show _ = _; rw [List.length_take, HM.out]; omega
      have DK : Hid ((M.drop k).length = k - k) := by show _ = _; rw [List.length_drop, HM.out]
      have G1 := Lib.hid (PM.out.take k)
      have G2 := Lib.hid (PM.out.drop k (by rw [HM.out]; omega))
      have hkc : (k : Int) ≤ (c1 : Int) := by have := PM.out.cap; rw [HM.out] at this; omega
      have hk0 : (0 : Int) ≤ (k : Int) := by omega
      have hkm : (k : Int) ≤ (k : Int) := by omega
      have hk2 : k ≤ 2000000 := by omega
      have hmk : k - k ≤ 2000000 := by omega
      have hbb := BB.out.size
      have O0 : Hid (∀ W : World, ∀ base, W.ownsRow base 77 2 (.slice none 0 0) 0 (prVs [])) := fun W base => World.ownsRow_nil _ _ _ _
      have E9 : Hid (M.take k ++ [(x, t)] ++ M.drop k = insP (x, t) M) := INS
      have FIN : Hid (∀ w3 v3, w3.ownsRow wb.heap.size 77 2 v3 (0 + k + 1 + (k - k)) (prVs ([] ++ M.take k ++ [(x, t)] ++ M.drop k)) → Below wb.heap.size wb w3 → RPost w r A (insP (x, t) M) (w3.setCell ⟨r, 0, none⟩ v3)) := fun w3 v3 ho hb => by
        have e : [] ++ M.take k ++ [(x, t)] ++ M.drop k = insP (x, t) M := by rw [List.nil_append]; exact E9.out
        have hlI : (insP (x, t) M).length = 0 + k + 1 + (k - k) := by rw [(insP_perm _ _).length_eq, List.length_cons, HM.out]; omega
        rw [e] at ho
        obtain ⟨A', c', e1, h1, h2⟩ := own_prs ho hlI
        rw [e1, ← hlI]
        exact SETQ.out w3 A' c' _ (BB.out.trans (hb.mono hbb)) h1 fun b off e => ⟨Nat.le_trans hbb (h2 b off e).1, (h2 b off e).2⟩
      have C3 : Hid (∀ w3, Below wb.heap.size wb w3 → w3.cell? ⟨r, 0, none⟩ = some (.slice A n c) ∧ w3.frozen? ⟨r, 0, none⟩ = false) := fun w3 hb => CC.out _ (BB.out.trans (hb.mono hbb))
      go_region_law
        (first
          | ((with_reducible refine at_w w2 ?_); (refine step_append_prs (by rfl) _ _ (by rfl) wb.heap.size v2 (0 + k + 1) ([] ++ M.take k ++ [(x, t)]) (by simp [Act.eval]) O2.out (subA A1 k c1) (k - k) (c1 - k) (M.drop k) (by simp [Act.eval]) DK.out (G2.out.below B2.out) (by omega) hmk B2.out.size ?_; intro v3 w3 o3 b3; have O3 := Lib.hid o3; have B3 := Lib.hid (B2.out.trans b3); obtain ⟨c3, f3⟩ := C3.out _ B3.out; obtain ⟨A9, c9, e9, _, _⟩ := own_prs (l := [] ++ M.take k ++ [(x, t)] ++ M.drop k) o3 (by rw [List.length_append, DK.out, List.length_append, List.nil_append, TK.out]; simp <;> omega); subst e9; clear o3 b3))
          | ((with_reducible refine at_w (w1.alloc _) ?_); (refine step_append_prs (by rfl) _ _ (by rfl) wb.heap.size v1 (0 + k) ([] ++ M.take k) (by simp [Act.eval]) (ownB o1.out ((Below.refl _ _).alloc (Nat.le_refl _) _)) (some ⟨w1.heap.size, 0, none⟩) 1 1 [(x, t)] (by simp [Act.eval]) rfl (PrsAt.one (heap_new w1 _ _)) (by omega) (by omega) (by have := b1.out.size; simp; omega) ?_; intro v2 w2 o2 b2; have O2 := Lib.hid o2; have B2 : Hid (Below wb.heap.size wb w2) := (b1.out.alloc b1.out.size _).trans b2; clear o2 b2 b1 o1))
          | ((with_reducible refine at_w w1 ?_); (refine step_append_prs (by rfl) _ _ (by rfl) (wb.heap.size + 1) v1 (0 + k) ([] ++ M.take k) (by simp [Act.eval]) p1.out (some ⟨wb.heap.size, 0, none⟩) 1 1 [(x, t)] (by simp [Act.eval]) rfl (PrsAt.one ((q1.out.block _ (Nat.lt_succ_self _)).trans (heap_new wb _ _))) (by omega) (by omega) (by have := q1.out.size; simp at this; omega) ?_; intro v2 w2 o2 b2; have O2 := Lib.hid (own_base (b' := wb.heap.size) o2 (by omega)); have B2 : Hid (Below wb.heap.size wb w2) := ((((Below.refl _ _).alloc (Nat.le_refl _) _).drew.trans (q1.out.mono (Nat.le_succ _))).trans (b2.mono (Nat.le_succ _))); clear o2 b2 q1 p1))
          | ((with_reducible refine at_w wb.drew ?_); (refine step_append_prs (by rfl) _ _ (by rfl) wb.heap.size (.slice none 0 0) 0 [] (by rfl) (O0.out _ _) A1 k c1 (M.take k) (by simp [Act.eval, Act.put]) TK.out (G1.out.below (Below.refl _ _).drew) (by omega) hk2 (Nat.le_refl _) ?_; intro v1 w1 o1' b1'; have o1 := Lib.hid o1'; have b1 : Hid (Below wb.heap.size wb w1) := (Below.refl _ _).drew.trans b1'; clear o1' b1'))
          | ((with_reducible refine at_w ((wb.alloc _).drew) ?_); (refine step_append_prs (by rfl) _ _ (by rfl) (wb.heap.size + 1) (.slice none 0 0) 0 [] (by rfl) (O0.out _ _) A1 k c1 (M.take k) (by simp [Act.eval, Act.put]) TK.out (G1.out.below ((Below.refl _ _).alloc (Nat.le_refl _) _).drew) (by omega) hk2 (by simp) ?_; intro v1 w1 p1' q1'; have p1 := Lib.hid p1'; have q1 := Lib.hid q1'; clear p1' q1'))
          | fail)
      all_goals
        have FF := Lib.hid (FIN.out _ _ O3.out B3.out)
        clear FIN C3 O3 B3
        go_wp2_with fail
        go_ret
        have h9 := FF.out
        first
          | exact ⟨rfl, h9⟩
          | (rw [show 0 + k + 1 + (k - k) = k + 1 by omega] at h9; exact ⟨rfl, h9⟩)
          | (rw [show 0 + k + 1 + (k - k) = k + 1 + (k - k) by omega] at h9; exact ⟨rfl, h9⟩)
end Go.Proofs.Ytiaonfmdjipekaa.Ls
