/- Walks: where a text has a sign that is not printable, how many signs there are, the program's and the document's; and which signs the document prints. Conditions: strings within the model's bounds; the decoder's two tables as they are laid. -/
import Derived.Test.YtnggbhpnpomfjaaDoorUtREnc
import Derived.Laws.Tables
set_option linter.unusedVariables false
namespace Go.Proofs.YtnggbhpnpomfjaaDoor
open Go.RowKit
theorem block_lt {w : World} {i : Nat} {o : Obj} (h : w.heap[i]? = some o) : i < w.heap.size := (Array.getElem?_eq_some_iff.1 h).1
theorem block_cell {w : World} {g : Nat} {cs : Array Value} {t : TypeId} {fr : Nat × Nat} (h : w.heap[g]? = some (.cells cs t fr)) (i : Nat) : w.cell? ⟨g, i, none⟩ = cs[i]? := by
  simp [World.cell?, h]
theorem block_free {w : World} {g : Nat} {cs : Array Value} {t : TypeId} (h : w.heap[g]? = some (.cells cs t (0, 0))) (i : Nat) : w.frozen? ⟨g, i, none⟩ = false := by
  simp [World.frozen?, h]
theorem block_set {w : World} {g : Nat} {cs : Array Value} {t : TypeId} (h : w.heap[g]? = some (.cells cs t (0, 0))) (i : Nat) (v : Value) :
    (w.setCell ⟨g, i, none⟩ v).heap[g]? = some (.cells (cs.setIfInBounds i v) t (0, 0)) := by
  simp [World.setCell, Array.getElem?_modify, h]
theorem setRow_below (w : World) {B g : Nat} (h : B ≤ g) (cs : Array Value) : Below B w (w.setRow g cs) :=
  ⟨rfl, rfl, rfl, by simp [World.setRow], fun k hk => by simp only [World.setRow, Array.getElem?_modify]; rw [if_neg (by omega)]⟩
/-- a block that the call has made, and that other memory stands -/
def Kept (w w2 : World) (t : TypeId) (cs : Array Value) : Prop := w2.heap[w.heap.size]? = some (.cells cs t (0, 0)) ∧ Below w.heap.size w w2
theorem Kept.first (w : World) (t : TypeId) (cs : Array Value) : Kept w (w.alloc (.cells cs t)) t cs := ⟨heap_alloc_new _ _, (Below.refl _ _).alloc (Nat.le_refl _) _⟩
theorem Kept.below {w w2 w3 : World} {t : TypeId} {cs : Array Value} (h : Kept w w2 t cs) (hb : Below w2.heap.size w2 w3) : Kept w w3 t cs := ⟨(hb.block _ (block_lt h.1)).trans h.1, h.2.trans (hb.mono h.2.size)⟩
theorem Kept.set {w w2 : World} {t : TypeId} {cs : Array Value} (h : Kept w w2 t cs) (ds : Array Value) : Kept w (w2.setRow w.heap.size ds) t ds := ⟨setRow_heap _ _ _ _ _ _ h.1, h.2.trans (setRow_below w2 (Nat.le_refl _) ds)⟩
theorem Kept.cell {w w2 : World} {t : TypeId} {cs : Array Value} (h : Kept w w2 t cs) (i : Nat) : w2.cell? ⟨w.heap.size, i, none⟩ = cs[i]? := block_cell h.1 i
theorem two_one (a b : Int) : (#[Value.int .i64 a, Value.int .i64 b]).all (·.oneCell') = true := by simp [Value.oneCell']
theorem printB_pos {n : Int} (h : printB n = true) : 0 ≤ n := by
  unfold printB at h
  split at h
  · rw [decide_eq_true_iff] at h; omega
  · omega
set_option maxHeartbeats 1600000 in
theorem rprintable_any (n : Int) (w : World) : Calls Tryd.prog 23 #[.int .i64 n] w fun e w' => e = .returned (.bool (printB n)) ∧ w = w' := by
  obtain ⟨q, hq⟩ : ∃ q, q = printB n := ⟨_, rfl⟩
  rw [← hq]
  unfold printB at hq
  by_cases a1 : n = 9
  · subst a1; have HQ := Lib.hid hq; clear hq
    go_enter Tryd.func23, Tryd.ntmps23
    go_wp2; go_ret; exact ⟨bret (by rw [HQ.out]; decide), rfl⟩
  by_cases a2 : n = 10
  · subst a2; have HQ := Lib.hid hq; clear hq a1
    go_enter Tryd.func23, Tryd.ntmps23
    go_wp2; go_ret; exact ⟨bret (by rw [HQ.out]; decide), rfl⟩
  by_cases a3 : n = 13
  · subst a3; have HQ := Lib.hid hq; clear hq a1 a2
    go_enter Tryd.func23, Tryd.ntmps23
    go_wp2; go_ret; exact ⟨bret (by rw [HQ.out]; decide), rfl⟩
  by_cases a4 : n = 133
  · subst a4; have HQ := Lib.hid hq; clear hq a1 a2 a3
    go_enter Tryd.func23, Tryd.ntmps23
    go_wp2; go_ret; exact ⟨bret (by rw [HQ.out]; decide), rfl⟩
  by_cases a5 : n = 65279
  · subst a5; have HQ := Lib.hid hq; clear hq a1 a2 a3 a4
    go_enter Tryd.func23, Tryd.ntmps23
    go_wp2; go_ret; exact ⟨bret (by rw [HQ.out]; decide), rfl⟩
  have e1 : (n == 9) = false := beq_eq_false_iff_ne.2 a1
  have e2 : (n == 10) = false := beq_eq_false_iff_ne.2 a2
  have e3 : (n == 13) = false := beq_eq_false_iff_ne.2 a3
  have e4 : (n == 133) = false := beq_eq_false_iff_ne.2 a4
  have e5 : (n == 65279) = false := beq_eq_false_iff_ne.2 a5
  have hq' : q = decide ((32 ≤ n ∧ n ≤ 126) ∨ (160 ≤ n ∧ n ≤ 55295) ∨ (57344 ≤ n ∧ n ≤ 65533) ∨ (65536 ≤ n ∧ n ≤ 1114111)) := by
    rw [hq]
    split
    · rw [decide_eq_decide]; constructor <;> intro h <;> omega
    · split
      · symm; rw [decide_eq_true_iff]; omega
      · split
        · rw [decide_eq_decide]; constructor <;> intro h <;> omega
        · split
          · symm; rw [decide_eq_true_iff]; omega
          · split
            · rw [decide_eq_decide]; constructor <;> intro h <;> omega
            · rw [decide_eq_decide]; constructor <;> intro h <;> omega
  clear hq a1 a2 a3 a4 a5
  by_cases b1 : 32 ≤ n
  · by_cases b2 : n ≤ 126
    · have HQ : Hid (q = true) := by show _ = _; rw [hq', decide_eq_true_iff]; omega
      clear hq'
      go_enter Tryd.func23, Tryd.ntmps23
      go_wp2; go_ret; exact ⟨bret (by rw [HQ.out]), rfl⟩
    · have f2 : decide (n ≤ 126) = false := by simpa using b2
      by_cases b3 : 160 ≤ n
      · by_cases b4 : n ≤ 55295
        · have HQ : Hid (q = true) := by show _ = _; rw [hq', decide_eq_true_iff]; omega
          clear hq' b2
          go_enter Tryd.func23, Tryd.ntmps23
          go_wp2; go_ret; exact ⟨bret (by rw [HQ.out]), rfl⟩
        · have f4 : decide (n ≤ 55295) = false := by simpa using b4
          by_cases b5 : 57344 ≤ n
          · by_cases b6 : n ≤ 65533
            · have HQ : Hid (q = true) := by show _ = _; rw [hq', decide_eq_true_iff]; omega
              clear hq' b2 b4
              go_enter Tryd.func23, Tryd.ntmps23
              go_wp2; go_ret; exact ⟨bret (by rw [HQ.out]), rfl⟩
            · have f6 : decide (n ≤ 65533) = false := by simpa using b6
              by_cases b7 : 65536 ≤ n
              · by_cases b8 : n ≤ 1114111
                · have HQ : Hid (q = true) := by show _ = _; rw [hq', decide_eq_true_iff]; omega
                  clear hq' b2 b4 b6
                  go_enter Tryd.func23, Tryd.ntmps23
                  go_wp2; go_ret; exact ⟨bret (by rw [HQ.out]), rfl⟩
                · have f8 : decide (n ≤ 1114111) = false := by simpa using b8
                  have HQ : Hid (q = false) := by show _ = _; rw [hq', decide_eq_false_iff_not]; omega
                  clear hq' b2 b4 b6 b8
                  go_enter Tryd.func23, Tryd.ntmps23
                  go_wp2; go_ret; exact ⟨bret (by rw [HQ.out]), rfl⟩
              · have f7 : decide (65536 ≤ n) = false := by simpa using b7
                have HQ : Hid (q = false) := by show _ = _; rw [hq', decide_eq_false_iff_not]; omega
                clear hq' b2 b4 b6 b7
                go_enter Tryd.func23, Tryd.ntmps23
                go_wp2; go_ret; exact ⟨bret (by rw [HQ.out]), rfl⟩
          · have f5 : decide (57344 ≤ n) = false := by simpa using b5
            have f7 : decide (65536 ≤ n) = false := by simp; omega
            have HQ : Hid (q = false) := by show _ = _; rw [hq', decide_eq_false_iff_not]; omega
            clear hq' b2 b4 b5
            go_enter Tryd.func23, Tryd.ntmps23
            go_wp2; go_ret; exact ⟨bret (by rw [HQ.out]), rfl⟩
      · have f3 : decide (160 ≤ n) = false := by simpa using b3
        have f5 : decide (57344 ≤ n) = false := by simp; omega
        have f7 : decide (65536 ≤ n) = false := by simp; omega
        have HQ : Hid (q = false) := by show _ = _; rw [hq', decide_eq_false_iff_not]; omega
        clear hq' b2 b3
        go_enter Tryd.func23, Tryd.ntmps23
        go_wp2; go_ret; exact ⟨bret (by rw [HQ.out]), rfl⟩
  · have f1 : decide (32 ≤ n) = false := by simpa using b1
    have f3 : decide (160 ≤ n) = false := by simp; omega
    have f5 : decide (57344 ≤ n) = false := by simp; omega
    have f7 : decide (65536 ≤ n) = false := by simp; omega
    have HQ : Hid (q = false) := by show _ = _; rw [hq', decide_eq_false_iff_not]; omega
    clear hq' b1
    go_enter Tryd.func23, Tryd.ntmps23
    go_wp2; go_ret; exact ⟨bret (by rw [HQ.out]), rfl⟩
set_option maxHeartbeats 800000 in
theorem check_text (s : ByteArray) (w : World) (hT : Tabs w) (hm : s.size ≤ 9223372036854775807) :
    Calls Tryd.prog 24 #[.string s] w fun e w' => e = .returned (faultV s.data.toList (walkL printB s.data.toList).2) ∧ Below w.heap.size w w' := by
  have HR := Lib.hid (Kept.first w 33 #[.int .i64 0, .int .i64 0])
  have HLE : Hid ((walkL printB s.data.toList).2 ≤ s.size) := (walkL_le printB s.data.toList.length s.data.toList (Nat.le_refl _)).1
  have WK : Hid (∀ W, Below w.heap.size w W → Calls Tryd.prog 62 #[.string s, .func (.func 22) #[] #[]] W fun e w' => e = .returned (.int .i64 ((walkL printB s.data.toList).2 : Nat)) ∧ Below W.heap.size W w') := by
    intro W hW
    refine (walk_check s printB (fun _ V => Below W.heap.size W V) W W (hT.below hW) hm (fun _ _ h => h) (fun _ _ _ h h2 => h.trans (h2.mono h.size)) (fun acc n V h _ _ _ _ => (printable_any n V).mono fun e w' ⟨he, hw⟩ => ⟨he, by rw [← hw]; exact h⟩) (Below.refl _ _)).mono ?_
    rintro e w' ⟨he, acc, hi, _⟩
    exact ⟨he, hi⟩
  have FT : Hid (∀ W, Calls Tryd.prog 61 #[.string s, .int .i64 ((walkL printB s.data.toList).2 : Nat)] W fun e w' => e = .returned (faultV s.data.toList (walkL printB s.data.toList).2) ∧ Below W.heap.size W w') := fun W => fault_any s _ W HLE.out hm
  obtain ⟨x, y, hv⟩ : ∃ x y : Int, faultV s.data.toList (walkL printB s.data.toList).2 = .agg #[.int .i64 x, .int .i64 y] := by
    unfold faultV; split
    · exact ⟨8, _, rfl⟩
    · exact ⟨0, 0, rfl⟩
  rw [hv] at FT ⊢
  generalize (walkL printB s.data.toList).2 = at_ at WK FT
  clear hv hT HLE
  go_enter Tryd.func24, Tryd.ntmps24
  go_wp2_with fail
  refine (WK.out _ HR.out.2).mono ?_
  rintro e w1 ⟨rfl, hb1⟩
  have HR1 := Lib.hid (HR.out.below hb1)
  clear hb1
  go_wp2_with fail
  refine (FT.out _).mono ?_
  rintro e w2 ⟨rfl, hb2⟩
  have HR2 := Lib.hid (HR1.out.below hb2)
  clear hb2
  go_wp2_with (refine wpList_store_row rfl 33 _ _ rfl w.heap.size #[.int .i64 x, .int .i64 y] rfl rfl 33 _ HR2.out.1 (by kernel_rfl) rfl (two_one _ _) ?_)
  have HR3 := HR2.out.set #[.int .i64 x, .int .i64 y]
  have q0 := HR3.cell 0
  have q1 := HR3.cell 1
  exact bodyPost_ret (v := .agg #[.int .i64 x, .int .i64 y]) (by simp [results, Tryd.results24, go_sem, q0, q1]) rfl ⟨rfl, HR3.2⟩
def allB (_ : Int) : Bool := true
set_option maxHeartbeats 400000 in
theorem countCall_any (g : Nat) (k : Nat) (n : Int) (w : World) (h : w.heap[g]? = some (.cells #[.int .i64 (k : Nat)] 3 (0, 0))) (hk : (k : Int) < 9223372036854775807) :
    Calls Tryd.prog 63 #[.int .i64 n, .pointer (some ⟨g, 0, none⟩)] w fun e w' => e = .returned (.bool true) ∧ w.setCell ⟨g, 0, none⟩ (.int .i64 ((k + 1 : Nat) : Int)) = w' := by
  have hc := block_cell h 0
  have hf := block_free h 0
  have hn : ((k : Int) + 1) = ((k + 1 : Nat) : Int) := by omega
  have HN := Lib.hid hn
  clear h hn
  go_enter Tryd.func63, Tryd.ntmps63
  go_wp2
  go_ret
  exact ⟨rfl, by rw [HN.out]⟩
set_option maxHeartbeats 800000 in
theorem count_text (s : ByteArray) (w : World) (hT : Tabs w) (hm : s.size ≤ 9223372036854775807) :
    Calls Tryd.prog 26 #[.string s] w fun e w' => e = .returned (.int .i64 ((walkL allB s.data.toList).1.length : Nat)) ∧ Below w.heap.size w w' := by
  have HR := Lib.hid (Kept.first w 3 #[.int .i64 0])
  have HALL : Hid ((walkL allB s.data.toList).2 = s.size) := by
    show _ = _
    have key : ∀ (k : Nat) (l : List UInt8), l.length ≤ k → (walkL allB l).2 = l.length := by
      intro k
      induction k with
      | zero => intro l hl; have : l = [] := List.eq_nil_of_length_eq_zero (by omega); subst this; rfl
      | succ k ih =>
        intro l hl
        by_cases h : l = []
        · subst h; rfl
        · have hp := firstL_pos h
          rw [walkL_yes h rfl, ih _ (by rw [List.length_drop]; omega), List.length_drop]
          simp only; omega
    exact key _ _ (Nat.le_refl _)
  have WK : Hid (∀ W, W = w.alloc (.cells #[.int .i64 0] 3) → Calls Tryd.prog 62 #[.string s, .func (.func 63) #[] #[.pointer (some ⟨w.heap.size, 0, none⟩)]] W fun e w' => e = .returned (.int .i64 ((walkL allB s.data.toList).2 : Nat)) ∧ Kept w w' 3 #[.int .i64 ((walkL allB s.data.toList).1.length : Nat)]) := by
    rintro W rfl
    refine (walk_count s allB w.heap.size (fun acc V => Kept w V 3 #[.int .i64 (acc.length : Nat)]) _ w hT hm (fun _ _ h => h.2) (fun _ _ _ h h2 => h.below h2) (fun acc n V h hl _ _ _ => ?_) HR.out).mono ?_
    · refine (countCall_any w.heap.size acc.length n V h.1 (by omega)).mono ?_
      rintro e w' ⟨rfl, rfl⟩
      refine ⟨rfl, ?_, h.2.setCell (p := ⟨w.heap.size, 0, none⟩) (Nat.le_refl _) _⟩
      rw [List.length_append]
      exact block_set h.1 0 _
    · rintro e w' ⟨he, acc, hi, ha⟩
      have := ha HALL.out
      subst this
      exact ⟨he, hi⟩
  generalize (walkL allB s.data.toList).2 = at_ at WK
  generalize (walkL allB s.data.toList).1.length = ln at WK
  clear HALL hT
  go_enter Tryd.func26, Tryd.ntmps26
  go_wp2_with fail
  refine (WK.out _ rfl).mono ?_
  rintro e w1 ⟨rfl, hk⟩
  have c0 := hk.cell 0
  have HK := Lib.hid hk
  clear hk
  go_wp2
  go_ret
  exact ⟨rfl, HK.out.2⟩
end Go.Proofs.YtnggbhpnpomfjaaDoor
