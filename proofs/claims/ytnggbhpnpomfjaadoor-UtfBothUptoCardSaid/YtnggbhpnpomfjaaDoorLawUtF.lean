/- The law 'UtfBoth': two texts, one behind the other, have the signs of both; a fault of the second one is ps much farther. Conditions: the texts are no longer than 2^20 each; the decoder's two tables are ps they are laid. -/
import Derived.Test.YtnggbhpnpomfjaaDoorLawUtE
set_option linter.unusedVariables false
namespace Go.Proofs.YtnggbhpnpomfjaaDoor
open Go.RowKit
theorem both_list (s t : ByteArray) : (s ++ t).data.toList = s.data.toList ++ t.data.toList := by simp
theorem append_ints {A : Option Addr} {c : Nat} {ps qs : List Int} {base : Nat} {w : World} (ho : w.ownsRow base 3 1 (.slice A ps.length c) ps.length (intCells ps)) {A' : Option Addr} {c' : Nat} {b0 : Nat} (ho' : w.ownsRow b0 3 1 (.slice A' qs.length c') qs.length (intCells qs))
    (hn : ps.length + qs.length ≤ 1099511627776) (hr : ∀ n ∈ ps ++ qs, -9223372036854775808 ≤ n ∧ n ≤ 9223372036854775807) (hb : base ≤ w.heap.size) :
    ∃ A2 c2 w', (Builtin.append_ #[22, 22] 22 #[.slice A ps.length c, .slice A' qs.length c']).run Tryd.prog w = .ok (.slice A2 (ps ++ qs).length c2) w' ∧ IntsIn w' A2 c2 (ps ++ qs) ∧ Below base w w' ∧ ∀ k, k < w.heap.size → some k ≠ (Value.slice A ps.length c).ownBlock → w'.heap[k]? = w.heap[k]? := by
  obtain ⟨i0, hi, hz0, hz1, hz2⟩ := info_parts infoInt
  have hcut : ∀ {v : Value} {w' : World}, w'.ownsRow base 3 1 v (ps ++ qs).length (intCells (ps ++ qs)) → ∃ A2 c2, v = .slice A2 (ps ++ qs).length c2 ∧ IntsIn w' A2 c2 (ps ++ qs) := fun h => ints_own h hr (by rw [List.length_append]; omega)
  rcases ho'.2 with ⟨he, _⟩ | ⟨g, cap, cur, he, _, hh, hn', _, hc, ht⟩
  · simp only [Value.slice.injEq] at he
    obtain ⟨rfl, h0, rfl⟩ := he
    have hb0 : qs = [] := List.eq_nil_of_length_eq_zero h0
    subst hb0
    have hr1 := run_append_owned_none (P := Tryd.prog) w base 22 22 3 i0 1 Tryd.underlying22 hi _ _ _ ho
    obtain ⟨A2, c2, e2, g2⟩ := hcut (v := .slice A ps.length c) (by rw [List.append_nil]; exact ho)
    refine ⟨A2, c2, w, ?_, g2, Below.refl _ _, fun _ _ _ => rfl⟩
    rw [← e2]
    exact hr1
  · simp only [Value.slice.injEq] at he
    obtain ⟨rfl, _, rfl⟩ := he
    obtain ⟨v', w', hr1, ho2, hg, _⟩ := run_append_own (P := Tryd.prog) w base 22 22 3 i0 (.int .i64 0) 1 8 Tryd.underlying22 hi hz0 hz1 hz2 rfl (by decide) _ _ _ ho ⟨g, 0, none⟩ qs.length _ (intCells qs) (by simp [intCells]) (fun j u hj => by
      rw [addr_add, Nat.zero_add, block_cell hh]
      have hj' : j < qs.length := by have := (List.getElem?_eq_some_iff.1 hj).1; simpa [intCells] using this
      have e : cur.toList[j]? = (intCells qs)[j]? := by rw [← ht, List.getElem?_take, if_pos (by simpa [intCells] using hj')]
      rw [← Array.getElem?_toList, e, hj]) (intCells_one qs) (by unfold maxLen; omega) (by omega) hb
    obtain ⟨A2, c2, rfl, g2⟩ := hcut (v := v') (by
      have : intCells (ps ++ qs) = intCells ps ++ intCells qs := by simp [intCells]
      rw [this, List.length_append]; exact ho2)
    exact ⟨A2, c2, w', hr1, g2, (Below.refl base w |>.grown hg hb (fun g h => (ho.lt g h).1)), fun k h1 h2 => hg.block k h1 h2⟩
theorem wpList_append_ran {P : Program} {w w' : World} {ops : Array Oper} {rest : List Oper} {o : Oper} {a : Act} {Q : Exit → Act → World → Prop} (hg : Region.wanted o (yielded ops a.tmps) = true) (s x : Operand) (t : TypeId)
    (ho : o.op = .call { callee := .builtin .append, args := #[s, x], argTypes := #[t, t] }) (v u r : Value) (hs : a.eval s = v) (hx : a.eval x = u)
    (hrun : (Builtin.append_ #[t, t] o.type #[v, u]).run P w = .ok r w') (h : wpList P ops Q rest (a.put o.dst r) w') : wpList P ops Q (o :: rest) a w := by
  refine wpList_step fun K hK => ?_
  rw [if_pos hg]
  unfold Oper.wp
  simp [execOp, ho, resolve, invoke, builtin, hs, hx, hrun, Result.andThen]
  exact hK _ _ h
theorem own_keep {w w' : World} {base : Nat} {e : TypeId} {size n : Nat} {v : Value} {xs : List Value} (h : w.ownsRow base e size v n xs) (hk : ∀ k, base ≤ k → k < w.heap.size → w'.heap[k]? = w.heap[k]?) : w'.ownsRow base e size v n xs := by
  refine ⟨h.1, ?_⟩
  rcases h.2 with h2 | ⟨b, cap, cur, hv, hge, hh, r⟩
  · exact Or.inl h2
  · exact Or.inr ⟨b, cap, cur, hv, hge, (hk b hge (block_lt hh)).trans hh, r⟩
theorem both_walk {l m : List UInt8} (p : Int → Bool) (hp : ∀ n, 0 ≤ n → p n = true) (h : (walkL okB l).2 = l.length) : walkL p (l ++ m) = ((walkL okB l).1 ++ (walkL p m).1, l.length + (walkL p m).2) := by
  obtain ⟨h1, _, h3⟩ := whole_enc h
  have := walk_enc (p := p) m (walkL okB l).1 fun n hn => ⟨h3 n hn, hp n (signB_iff.1 (h3 n hn)).1⟩
  rw [h1] at this
  exact this
theorem count_whole {l : List UInt8} (h : (walkL okB l).2 = l.length) : (walkL allB l).1 = (walkL okB l).1 := by
  have := both_walk (m := []) allB (fun _ _ => rfl) h
  rw [List.append_nil, walkL_nil, List.append_nil] at this
  rw [this]
set_option maxRecDepth 100000 in
set_option maxHeartbeats 3200000 in
theorem law_UtfBoth (w : World) (s : ByteArray) (z : s.size ≤ 1048576) (t : ByteArray) (z' : t.size ≤ 1048576) (hT : Tabs w) :
    Calls Tryd.prog 9 #[.string s, .string t] w (LawPost w) := by
  have AL := Lib.hid (fun W (hW : Below w.heap.size w W) => alive_any W (hT.below hW))
  have hls : s.data.toList.length = s.size := rfl
  have hlt : t.data.toList.length = t.size := rfl
  have hst : (s ++ t).size = s.size + t.size := by simp
  have hadd : s.size + t.size ≤ 9223372036854775807 := by omega
  have D1 := Lib.hid (got_text s (by omega) w hT)
  have D2 := Lib.hid (fun W (hW : Below w.heap.size w W) => got_text t (by omega) W (hT.below hW))
  have D3 := Lib.hid (fun W (hW : Below w.heap.size w W) => got_text (s ++ t) (by omega) W (hT.below hW))
  have C1 := Lib.hid (fun W (hW : Below w.heap.size w W) => count_text s W (hT.below hW) (by omega))
  have C2 := Lib.hid (fun W (hW : Below w.heap.size w W) => count_text t W (hT.below hW) (by omega))
  have C3 := Lib.hid (fun W (hW : Below w.heap.size w W) => count_text (s ++ t) W (hT.below hW) (by omega))
  unfold GotPost at D1 D2 D3
  rcases fault_cases s.data.toList with ⟨hk, hv, hd⟩ | ⟨hk, hv, hd⟩
  · rw [hv, hd] at D1
    generalize (walkL okB s.data.toList).2 = k at D1
    clear hT D2 D3 C1 C2 C3 hk hv hd hls hlt hst hadd
    simp only [List.length_nil] at D1
    go_enter Tryd.func9, Tryd.ntmps9
    go_wp2_with fail
    refine D1.out.mono ?_
    rintro e w1 ⟨A, c, rfl, hi1, -, hb1⟩
    have HB1 := Lib.hid hb1
    have HK1 := Lib.hid (Kept.first w1 33 #[.int .i64 0, .int .i64 0])
    have HS1 := hb1.size
    clear hb1 hi1
    have HK2 := Lib.hid (HK1.out.set #[.int .i64 8, .int .i64 (k : Nat)])
    have q0 := HK2.out.cell 0
    have q1 := HK2.out.cell 1
    go_wp2_with (refine wpList_store_row rfl 33 _ _ rfl w1.heap.size #[.int .i64 8, .int .i64 (k : Nat)] rfl rfl 33 _ HK1.out.1 (by kernel_rfl) rfl (two_one _ _) ?_)
    refine (AL.out _ (HB1.out.trans (HK2.out.2.mono HS1))).mono ?_
    rintro e w8 ⟨rfl, hb8⟩
    have HB8 := Lib.hid ((HB1.out.trans (HK2.out.2.mono HS1)).trans (hb8.mono (HB1.out.trans (HK2.out.2.mono HS1)).size))
    clear hb8
    go_wp2_with fail
    go_ret
    exact ⟨rfl, HB8.out⟩
  · have W3 := both_walk (m := t.data.toList) okB (fun n h => by simpa [okB] using h) hk
    have W4 := both_walk (m := t.data.toList) allB (fun n h => rfl) hk
    have W5 := count_whole hk
    rw [← both_list] at W3 W4
    have hcs : ∀ n ∈ decL s.data.toList, signB n = true := dec_range _
    have hct : ∀ n ∈ decL t.data.toList, signB n = true := dec_range _
    have hns := dec_count s.data.toList
    have hnt := dec_count t.data.toList
    rcases fault_cases t.data.toList with ⟨hk2, hv2, hd2⟩ | ⟨hk2, hv2, hd2⟩
    · have hv3 : faultV (s ++ t).data.toList (walkL okB (s ++ t).data.toList).2 = .agg #[.int .i64 8, .int .i64 (((walkL okB t.data.toList).2 : Nat) + (s.size : Int))] := by
        rw [W3]; unfold faultV
        have e0 : (s ++ t).data.toList.length = s.data.toList.length + t.data.toList.length := by rw [both_list, List.length_append]
        simp only [hls] at e0 ⊢
        rw [if_pos (by omega)]
        rw [show ((s.size + (walkL okB t.data.toList).2 : Nat) : Int) = ((walkL okB t.data.toList).2 : Nat) + (s.size : Int) by omega]
      have hd3 : decL (s ++ t).data.toList = [] := by
        unfold decL; rw [W3, both_list, List.length_append]; rw [if_neg (by simp only; omega)]
      rw [hv] at D1
      rw [hv2, hd2] at D2
      rw [hv3, hd3] at D3
      rw [hlt] at hk2
      have hk2' : (((walkL okB t.data.toList).2 : Nat) : Int) + (s.size : Int) ≤ 9223372036854775807 := by omega
      generalize decL s.data.toList = ps at D1
      generalize (walkL okB t.data.toList).2 = k at D2 D3 hk2'
      simp only [List.length_nil] at D2 D3
      have wr : IntKind.i64.wrap ((k : Int) + (s.size : Int)) = (k : Int) + (s.size : Int) := by rw [IntKind.wrap_i64]; omega
      have e2 : ((k : Int) + (s.size : Int) == (k : Int) + (s.size : Int)) = true := beq_self_eq_true _
      clear hT C1 C2 C3 hk hv hd hls hlt hst W3 W4 W5 hcs hct hk2 hv2 hd2 hv3 hd3 hns hnt
      go_enter Tryd.func9, Tryd.ntmps9
      go_wp2_with fail
      refine D1.out.mono ?_
      rintro e w1 ⟨A, c, rfl, hi1, -, hb1⟩
      have HB1 := Lib.hid hb1
      have HK1 := Lib.hid (Kept.first w1 33 #[.int .i64 0, .int .i64 0])
      have HS1 := hb1.size
      clear hb1 hi1
      have HK2 := Lib.hid (HK1.out.set #[.int .i64 0, .int .i64 0])
      have q0 := HK2.out.cell 0
      have q1 := HK2.out.cell 1
      go_wp2_with (refine wpList_store_row rfl 33 _ _ rfl w1.heap.size #[.int .i64 0, .int .i64 0] rfl rfl 33 _ HK1.out.1 (by kernel_rfl) rfl (two_one _ _) ?_)
      clear q0 q1
      generalize ((w1.alloc _).setRow _ _) = w2 at HK2 ⊢
      have HB2 : Hid (Below w.heap.size w w2) := HB1.out.trans (HK2.out.2.mono HS1)
      refine (D2.out _ HB2.out).mono ?_
      rintro e w3 ⟨A', c', rfl, hi3, -, hb3⟩
      have HB3 := Lib.hid (HB2.out.trans (hb3.mono HB2.out.size))
      have HL1 := Lib.hid (Kept.first w3 33 #[.int .i64 0, .int .i64 0])
      have HS3 := HB3.out.size
      clear hb3 hi3
      have HL2 := Lib.hid (HL1.out.set #[.int .i64 8, .int .i64 (k : Nat)])
      go_wp2_with (refine wpList_store_row rfl 33 _ _ rfl w3.heap.size #[.int .i64 8, .int .i64 (k : Nat)] rfl rfl 33 _ HL1.out.1 (by kernel_rfl) rfl (two_one _ _) ?_)
      generalize ((w3.alloc _).setRow _ _) = w4 at HL2 ⊢
      have HB4 : Hid (Below w.heap.size w w4) := HB3.out.trans (HL2.out.2.mono HS3)
      refine (D3.out _ HB4.out).mono ?_
      rintro e w5 ⟨A3, c3, rfl, hi5, -, hb5⟩
      have HB5 := Lib.hid (HB4.out.trans (hb5.mono HB4.out.size))
      have HL5 := Lib.hid (HL2.out.below hb5)
      have HM1 := Lib.hid (Kept.first w5 33 #[.int .i64 0, .int .i64 0])
      have HS5 := HB5.out.size
      clear hb5 hi5
      have HM2 := Lib.hid (HM1.out.set #[.int .i64 8, .int .i64 ((k : Int) + (s.size : Int))])
      have HL6 := Lib.hid (HL5.out.below HM2.out.2)
      have q0 := HM2.out.cell 0
      have q1 := HM2.out.cell 1
      have r0 := HL6.out.cell 0
      have r1 := HL6.out.cell 1
      go_wp2_with (refine wpList_store_row rfl 33 _ _ rfl w5.heap.size #[.int .i64 8, .int .i64 ((k : Int) + (s.size : Int))] rfl rfl 33 _ HM1.out.1 (by kernel_rfl) rfl (two_one _ _) ?_)
      have HB6 := Lib.hid (HB5.out.trans (HM2.out.2.mono HS5))
      refine (AL.out _ HB6.out).mono ?_
      rintro e w8 ⟨rfl, hb8⟩
      have HB8 := Lib.hid (HB6.out.trans (hb8.mono HB6.out.size))
      clear hb8
      go_wp2_with fail
      go_ret
      exact ⟨rfl, HB8.out⟩
    · have hv3 : faultV (s ++ t).data.toList (walkL okB (s ++ t).data.toList).2 = .agg #[.int .i64 0, .int .i64 0] := by
        rw [W3]; unfold faultV
        rw [both_list, List.length_append, if_neg (by simp only; omega)]
      have hd3 : decL (s ++ t).data.toList = decL s.data.toList ++ decL t.data.toList := by
        have : decL (s ++ t).data.toList = (walkL okB s.data.toList).1 ++ (walkL okB t.data.toList).1 := by
          unfold decL; rw [W3, both_list, List.length_append]; rw [if_pos (by simp only; omega)]
        rw [this, hd, hd2]
      have W6 := count_whole hk2
      rw [hv] at D1
      rw [hv2] at D2
      rw [hv3, hd3] at D3
      rw [W5, ← hd] at C1
      rw [W6, ← hd2] at C2
      rw [W4, W6, ← hd, ← hd2] at C3
      generalize decL s.data.toList = ps at D1 D3 C1 C3 hcs hns
      generalize decL t.data.toList = qs at D2 D3 C2 C3 hct hnt
      rw [hls] at hns
      rw [hlt] at hnt
      have hbig : ps.length + qs.length ≤ 1099511627776 := by omega
      have hrange : ∀ n ∈ ps ++ qs, -9223372036854775808 ≤ n ∧ n ≤ 9223372036854775807 := fun n hn => by
        rcases List.mem_append.1 hn with h | h
        · have := signB_iff.1 (hcs n h); omega
        · have := signB_iff.1 (hct n h); omega
      have APP : Hid (∀ (A : Option Addr) (c base : Nat) (W : World), W.ownsRow base 3 1 (.slice A ps.length c) ps.length (intCells ps) → ∀ (A' : Option Addr) (c' b0 : Nat), W.ownsRow b0 3 1 (.slice A' qs.length c') qs.length (intCells qs) → base ≤ W.heap.size → ∃ A2 c2 w', (Builtin.append_ #[22, 22] 22 #[.slice A ps.length c, .slice A' qs.length c']).run Tryd.prog W = .ok (.slice A2 (ps ++ qs).length c2) w' ∧ IntsIn w' A2 c2 (ps ++ qs) ∧ Below base W w' ∧ ∀ k, k < W.heap.size → some k ≠ (Value.slice A ps.length c).ownBlock → w'.heap[k]? = W.heap[k]?) :=
        fun A c base W ho A' c' b0 ho' hb => append_ints ho ho' hbig hrange hb
      have HR := Lib.hid hrange
      have HBIG : Hid ((ps ++ qs).length ≤ 17592186044416) := by show _ ≤ _; rw [List.length_append]; omega
      have wr : IntKind.i64.wrap ((ps.length : Int) + (qs.length : Int)) = (ps.length : Int) + (qs.length : Int) := by rw [IntKind.wrap_i64]; omega
      have e2 : (((ps ++ qs).length : Int) == (ps.length : Int) + (qs.length : Int)) = true := by rw [List.length_append]; simp
      clear hT hk hv hd hls hlt hst W3 W4 W5 W6 hk2 hv2 hd2 hv3 hd3 hns hnt hcs hct hbig hrange
      go_enter Tryd.func9, Tryd.ntmps9
      go_wp2_with fail
      refine D1.out.mono ?_
      rintro e w1 ⟨A, c, rfl, hi1, ho1, hb1⟩
      have HB1 := Lib.hid hb1
      have HO1 := Lib.hid ho1
      have HLT : Hid (∀ g, some g = (Value.slice A ps.length c).ownBlock → g < w1.heap.size) := fun g h => (ho1.lt g h.symm).2
      have HK1 := Lib.hid (Kept.first w1 33 #[.int .i64 0, .int .i64 0])
      have HS1 := hb1.size
      clear hb1 hi1 ho1
      have HK2 := Lib.hid (HK1.out.set #[.int .i64 0, .int .i64 0])
      have q0 := HK2.out.cell 0
      have q1 := HK2.out.cell 1
      go_wp2_with (refine wpList_store_row rfl 33 _ _ rfl w1.heap.size #[.int .i64 0, .int .i64 0] rfl rfl 33 _ HK1.out.1 (by kernel_rfl) rfl (two_one _ _) ?_)
      clear q0 q1
      generalize ((w1.alloc _).setRow _ _) = w2 at HK2 ⊢
      have HB2 : Hid (Below w.heap.size w w2) := HB1.out.trans (HK2.out.2.mono HS1)
      have HO2 := Lib.hid (own_below HO1.out HK2.out.2)
      refine (D2.out _ HB2.out).mono ?_
      rintro e w3 ⟨A', c', rfl, hi3, ho3, hb3⟩
      have HB23 : Hid (w2.heap.size ≤ w3.heap.size) := hb3.size
      have HB3 := Lib.hid (HB2.out.trans (hb3.mono HB2.out.size))
      have HO3 := Lib.hid (own_below HO2.out hb3)
      have HP3 := Lib.hid ho3
      have HL1 := Lib.hid (Kept.first w3 33 #[.int .i64 0, .int .i64 0])
      have HS3 := HB3.out.size
      clear hb3 hi3 ho3 HO1 HO2
      have HL2 := Lib.hid (HL1.out.set #[.int .i64 0, .int .i64 0])
      go_wp2_with (refine wpList_store_row rfl 33 _ _ rfl w3.heap.size #[.int .i64 0, .int .i64 0] rfl rfl 33 _ HL1.out.1 (by kernel_rfl) rfl (two_one _ _) ?_)
      generalize ((w3.alloc _).setRow _ _) = w4 at HL2 ⊢
      have HB4 : Hid (Below w.heap.size w w4) := HB3.out.trans (HL2.out.2.mono HS3)
      have HO4 := Lib.hid (own_below HO3.out HL2.out.2)
      have HP4 := Lib.hid (own_below HP3.out HL2.out.2)
      refine (D3.out _ HB4.out).mono ?_
      rintro e w5 ⟨A3, c3, rfl, hi5, ho5, hb5⟩
      have HB5 := Lib.hid (HB4.out.trans (hb5.mono HB4.out.size))
      have HC5 := Lib.hid ho5
      have HL5 := Lib.hid (HL2.out.below hb5)
      have HO5 := Lib.hid (own_below HO4.out hb5)
      have HP5 := Lib.hid (own_below HP4.out hb5)
      have HI5 := Lib.hid hi5
      have HM1 := Lib.hid (Kept.first w5 33 #[.int .i64 0, .int .i64 0])
      have HS5 := HB5.out.size
      clear hb5 hi5 ho5 HO3 HP3 HO4 HP4
      have HM2 := Lib.hid (HM1.out.set #[.int .i64 0, .int .i64 0])
      have HL6 := Lib.hid (HL5.out.below HM2.out.2)
      have q0 := HM2.out.cell 0
      have q1 := HM2.out.cell 1
      have r0 := HL6.out.cell 0
      have r1 := HL6.out.cell 1
      have HO6 := Lib.hid (own_below HO5.out HM2.out.2)
      have HP6 := Lib.hid (own_below HP5.out HM2.out.2)
      have HI6 := Lib.hid (HI5.out.below HM2.out.2)
      have HB6 := Lib.hid (HB5.out.trans (HM2.out.2.mono HS5))
      have HC6 := Lib.hid (own_below HC5.out HM2.out.2)
      obtain ⟨A2, c2, w7, hrun, hi7, hb7, hk7⟩ := APP.out _ _ _ _ HO6.out _ _ _ HP6.out HB6.out.size
      have HI7 := Lib.hid hi7
      have HSS : Hid (w1.heap.size ≤ w4.heap.size) := Nat.le_trans HK2.out.2.size (Nat.le_trans HB23.out HL2.out.2.size)
      obtain ⟨A4, c4, he4, hi4⟩ := ints_own (own_keep HC6.out fun k h1 h2 => hk7 k h2 fun h => by have := HLT.out k h; have := HSS.out; omega) HR.out HBIG.out
      cases he4
      have HI8 := Lib.hid hi4
      have HB7 := Lib.hid (HB6.out.trans hb7)
      clear hi7 hi4 hb7 hk7
      have HRUN := Lib.hid hrun
      have is1 := ints_same _ _ _ _ _ _ HI8.out HI7.out
      simp only [List.length_append] at is1
      have IS := Lib.hid is1
      clear is1
      clear hrun
      go_wp2_with (first | (at_builtin; refine wpList_append_ran (by rfl) _ _ 22 rfl _ _ _ rfl rfl HRUN.out ?_) | refine wpList_store_row rfl 33 _ _ rfl w5.heap.size #[.int .i64 0, .int .i64 0] rfl rfl 33 _ HM1.out.1 (by kernel_rfl) rfl (two_one _ _) ?_)
      refine IS.out.mono ?_
      rintro e w8 ⟨rfl, hb8⟩
      have HB8 := Lib.hid (HB7.out.trans (hb8.mono HB7.out.size))
      clear hb8
      go_wp2_with fail
      refine (C3.out _ HB8.out).mono ?_
      rintro e w9 ⟨rfl, hb9⟩
      have HB9 := Lib.hid (HB8.out.trans (hb9.mono HB8.out.size))
      clear hb9
      go_wp2_with fail
      refine (C1.out _ HB9.out).mono ?_
      rintro e w10 ⟨rfl, hb10⟩
      have HB10 := Lib.hid (HB9.out.trans (hb10.mono HB9.out.size))
      clear hb10
      go_wp2_with fail
      refine (C2.out _ HB10.out).mono ?_
      rintro e w11 ⟨rfl, hb11⟩
      have HB11 := Lib.hid (HB10.out.trans (hb11.mono HB10.out.size))
      clear hb11
      go_wp2_with fail
      refine (AL.out _ HB11.out).mono ?_
      rintro e w12 ⟨rfl, hb12⟩
      have HB12 := Lib.hid (HB11.out.trans (hb12.mono HB11.out.size))
      clear hb12
      go_wp2_with fail
      go_ret
      exact ⟨rfl, HB12.out⟩
end Go.Proofs.YtnggbhpnpomfjaaDoor
