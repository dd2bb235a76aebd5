/- Walks: a block's style told, and told from a text: the program's. Conditions: none. -/
import Derived.Test.YtnggbhpnpomfjaaDoorBlTk
set_option linter.unusedVariables false
namespace Go.Proofs.YtnggbhpnpomfjaaDoor.Bl
open Go.RowKit
def headL : List UInt8 → Option (Bool × Int)
  | [124] => some (false, 0)
  | [124, 45] => some (false, 1)
  | [124, 43] => some (false, 2)
  | [62] => some (true, 0)
  | [62, 45] => some (true, 1)
  | [62, 43] => some (true, 2)
  | _ => none
def markL (f : Bool) (c : Int) : List UInt8 := (if f = true then 62 else 124) :: (if c = 1 then [45] else if c = 2 then [43] else [])
def styleV (f : Bool) (c : Int) : Value := .agg #[.bool f, .int .i64 c]
def headV (l : List UInt8) : Value := match headL l with
  | some (f, c) => .tuple #[styleV f c, .bool true]
  | none => .tuple #[styleV false 0, .bool false]
theorem style_one (f : Bool) (c : Int) : (#[Value.bool f, Value.int .i64 c]).all (·.oneCell') = true := by simp [Value.oneCell']
theorem two_first (w : World) (cs : Array Value) (t : TypeId) (o : Obj) : ((w.alloc (.cells cs t)).alloc o).heap[w.heap.size]? = some (.cells cs t (0, 0)) :=
  (Below.heap_alloc _ _ _ (by simp)).trans (heap_alloc_new w _)
theorem headL_none {l : List UInt8} (h1 : ∀ t, l ≠ 124 :: t) (h2 : ∀ t, l ≠ 62 :: t) : headL l = none := by
  unfold headL
  split
  all_goals first | rfl | exact absurd rfl (h1 _) | exact absurd rfl (h2 _)
theorem headL_other {c : UInt8} {t : List UInt8} (h1 : t ≠ []) (h2 : t ≠ [45]) (h3 : t ≠ [43]) : headL (c :: t) = none := by
  unfold headL
  split
  all_goals first | rfl | (rename_i h; injection h with _ h; first | exact absurd h h1 | exact absurd h h2 | exact absurd h h3)
theorem pre_yes (s : ByteArray) (c : UInt8) (t : List UInt8) (h : s.data.toList = c :: t) (w : World) : Calls Tryd.prog 71 #[.string s, .string ⟨#[c]⟩] w fun e w' => e = .returned (.bool true) ∧ w = w' := by
  refine (Tryd.strings_HasPrefix s ⟨#[c]⟩ w).mono ?_
  rintro e w' ⟨rfl, rfl⟩
  refine ⟨?_, rfl⟩
  show Ending.returned (Value.bool (Lib.hasPrefix s.data.toList [c])) = _
  rw [h]
  simp [Lib.hasPrefix]
theorem pre_no (s : ByteArray) (c : UInt8) (h : ∀ t, s.data.toList ≠ c :: t) (w : World) : Calls Tryd.prog 71 #[.string s, .string ⟨#[c]⟩] w fun e w' => e = .returned (.bool false) ∧ w = w' := by
  refine (Tryd.strings_HasPrefix s ⟨#[c]⟩ w).mono ?_
  rintro e w' ⟨rfl, rfl⟩
  refine ⟨?_, rfl⟩
  show Ending.returned (Value.bool (Lib.hasPrefix s.data.toList [c])) = _
  cases hl : s.data.toList with
  | nil => simp [Lib.hasPrefix]
  | cons x t =>
    have hx : x ≠ c := fun e => h t (by rw [hl, e])
    have hx' : ¬ (c = x) := fun e => hx e.symm
    simp [Lib.hasPrefix, List.isPrefixOf, hx']
theorem str_cmp (s : ByteArray) (l : List UInt8) (b : Bool) (h : decide (s.data.toList = l) = b) : (s.toList == l) = b := by
  rw [Lib.toList_data, ← h]
  by_cases e : s.data.toList = l
  · simp [e]
  · simp [e]
theorem tail_slice (s : ByteArray) (h : 1 ≤ s.size) (W : World) : (Instr.sliceAt 9 (.string s) (some (.int .i64 1)) none none).run Tryd.prog W = .ok (.string (s.extract 1 s.size)) W := by
  rw [run_sliceAt_string W _ _ _ _ _ Tryd.underlying9, run_slice_string_l W _ s Tryd.underlying9 .i64 1 (by omega) (by omega)]
  rfl
theorem tail_data {s : ByteArray} {c : UInt8} {t : List UInt8} (h : s.data.toList = c :: t) : (s.extract 1 s.size).data.toList = t := by
  have e : s.size = t.length + 1 := by rw [← bl_size, h]; rfl
  rw [Lib.extract_data, h, e]
  simp
set_option maxHeartbeats 1600000 in
theorem head_any (s : ByteArray) (w : World) : Calls Tryd.prog 83 #[.string s] w fun e w' => e = .returned (headV s.data.toList) ∧ Below w.heap.size w w' := by
  by_cases h0 : ∃ t, s.data.toList = 124 :: t
  · obtain ⟨t, ht⟩ := h0
    have P1 := Lib.hid (fun W => pre_yes s 124 t ht W)
    have hs1 : 1 ≤ s.size := by rw [← bl_size, ht]; simp
    have hsl := tail_slice s hs1
    have hd := tail_data ht
    generalize s.extract 1 s.size = r at hsl hd
    by_cases k0 : t = []
    · have HV : Hid (headV s.data.toList = .tuple #[styleV false 0, .bool true]) := by show _ = _; rw [ht, k0]; rfl
      have ht0 := k0
      have ht1 := ht
      have ht2 := hd
      rw [k0] at hd
      obtain ⟨e1, e2, e3, e4, e5⟩ := empty_facts hd
      clear hd ht k0
      clear ht0 ht1 ht2
      go_enter Tryd.func83, Tryd.ntmps83
      go_wp2_with fail
      refine (P1.out _).mono ?_
      rintro e w1 ⟨rfl, rfl⟩
      go_wp2_with (refine wpList_store_row rfl 61 _ _ rfl w.heap.size #[.bool false, .int .i64 0] rfl rfl 61 _ (two_first _ _ _ _) (by kernel_rfl) rfl (style_one _ _) ?_)
      have hz := setRow_heap _ _ _ (#[Value.bool false, Value.int .i64 0] : Array Value) _ _ (two_first w #[Value.bool false, Value.int .i64 0] 61 (.cells #[.bool false, .int .i64 0] 61))
      have z0 := bl_block_cell hz 0
      have z1 := bl_block_cell hz 1
      refine bodyPost_ret (v := .tuple #[.agg #[.bool false, .int .i64 0], .bool true]) (by simp [results, Tryd.results83, go_sem, z0, z1]) rfl ⟨by rw [HV.out]; rfl, ?_⟩
      exact (((Below.refl _ _).alloc (Nat.le_refl _) _).alloc (by simp) _).trans (bl_setRow_below _ (Nat.le_refl _) _)
    · have kk0 := k0
      by_cases k1 : t = [45]
      · have HV : Hid (headV s.data.toList = .tuple #[styleV false 1, .bool true]) := by show _ = _; rw [ht, k1]; rfl
        have ht0 := k1
        have ht1 := ht
        have ht2 := hd
        rw [k1] at hd
        obtain ⟨e1, e2, e3, e4, e5⟩ := nonempty_facts (s := r) (by rw [hd]; simp)
        have g1 := str_cmp r [45] true (by rw [hd]; rfl)
        clear hd ht k1 k0
        clear ht0 ht1 ht2
        go_enter Tryd.func83, Tryd.ntmps83
        go_wp2_with fail
        refine (P1.out _).mono ?_
        rintro e w1 ⟨rfl, rfl⟩
        go_wp2_with (refine wpList_store_row rfl 61 _ _ rfl w.heap.size #[.bool false, .int .i64 1] rfl rfl 61 _ (two_first _ _ _ _) (by kernel_rfl) rfl (style_one _ _) ?_)
        have hz := setRow_heap _ _ _ (#[Value.bool false, Value.int .i64 1] : Array Value) _ _ (two_first w #[Value.bool false, Value.int .i64 0] 61 (.cells #[.bool false, .int .i64 1] 61))
        have z0 := bl_block_cell hz 0
        have z1 := bl_block_cell hz 1
        refine bodyPost_ret (v := .tuple #[.agg #[.bool false, .int .i64 1], .bool true]) (by simp [results, Tryd.results83, go_sem, z0, z1]) rfl ⟨by rw [HV.out]; rfl, ?_⟩
        exact (((Below.refl _ _).alloc (Nat.le_refl _) _).alloc (by simp) _).trans (bl_setRow_below _ (Nat.le_refl _) _)
      · have kk1 := k1
        by_cases k2 : t = [43]
        · have HV : Hid (headV s.data.toList = .tuple #[styleV false 2, .bool true]) := by show _ = _; rw [ht, k2]; rfl
          have ht0 := k2
          have ht1 := ht
          have ht2 := hd
          rw [k2] at hd
          obtain ⟨e1, e2, e3, e4, e5⟩ := nonempty_facts (s := r) (by rw [hd]; simp)
          have g1 := str_cmp r [45] false (by rw [hd]; rfl)
          have g2 := str_cmp r [43] true (by rw [hd]; rfl)
          clear hd ht k2 k0 k1
          clear ht0 ht1 ht2
          go_enter Tryd.func83, Tryd.ntmps83
          go_wp2_with fail
          refine (P1.out _).mono ?_
          rintro e w1 ⟨rfl, rfl⟩
          go_wp2_with (refine wpList_store_row rfl 61 _ _ rfl w.heap.size #[.bool false, .int .i64 2] rfl rfl 61 _ (two_first _ _ _ _) (by kernel_rfl) rfl (style_one _ _) ?_)
          have hz := setRow_heap _ _ _ (#[Value.bool false, Value.int .i64 2] : Array Value) _ _ (two_first w #[Value.bool false, Value.int .i64 0] 61 (.cells #[.bool false, .int .i64 2] 61))
          have z0 := bl_block_cell hz 0
          have z1 := bl_block_cell hz 1
          refine bodyPost_ret (v := .tuple #[.agg #[.bool false, .int .i64 2], .bool true]) (by simp [results, Tryd.results83, go_sem, z0, z1]) rfl ⟨by rw [HV.out]; rfl, ?_⟩
          exact (((Below.refl _ _).alloc (Nat.le_refl _) _).alloc (by simp) _).trans (bl_setRow_below _ (Nat.le_refl _) _)
        · have HV : Hid (headV s.data.toList = .tuple #[styleV false 0, .bool false]) := by show _ = _; unfold headV; rw [ht, headL_other k0 k1 k2]
          have ht0 := k0
          have ht1 := ht
          have ht2 := hd
          obtain ⟨e1, e2, e3, e4, e5⟩ := nonempty_facts (s := r) (by rw [hd]; exact k0)
          have g1 := str_cmp r [45] false (by rw [hd]; exact decide_eq_false k1)
          have g2 := str_cmp r [43] false (by rw [hd]; exact decide_eq_false k2)
          clear hd ht k0 k1 k2 kk0 kk1
          clear ht0 ht1 ht2
          go_enter Tryd.func83, Tryd.ntmps83
          go_wp2_with fail
          refine (P1.out _).mono ?_
          rintro e w1 ⟨rfl, rfl⟩
          go_wp2_with (refine wpList_store_row rfl 61 _ _ rfl w.heap.size #[.bool false, .int .i64 0] rfl rfl 61 _ (two_first _ _ _ _) (by kernel_rfl) rfl (style_one _ _) ?_)
          have hz := setRow_heap _ _ _ (#[Value.bool false, Value.int .i64 0] : Array Value) _ _ (two_first w #[Value.bool false, Value.int .i64 0] 61 (.cells #[.bool false, .int .i64 0] 61))
          have z0 := bl_block_cell hz 0
          have z1 := bl_block_cell hz 1
          refine bodyPost_ret (v := .tuple #[.agg #[.bool false, .int .i64 0], .bool false]) (by simp [results, Tryd.results83, go_sem, z0, z1]) rfl ⟨by rw [HV.out]; rfl, ?_⟩
          exact (((Below.refl _ _).alloc (Nat.le_refl _) _).alloc (by simp) _).trans (bl_setRow_below _ (Nat.le_refl _) _)
  · have hh0 := h0
    by_cases h1 : ∃ t, s.data.toList = 62 :: t
    · obtain ⟨t, ht⟩ := h1
      have P1 := Lib.hid (fun W => pre_no s 124 (fun t h => h0 ⟨t, h⟩) W)
      have P2 := Lib.hid (fun W => pre_yes s 62 t ht W)
      clear h0
      have hs1 : 1 ≤ s.size := by rw [← bl_size, ht]; simp
      have hsl := tail_slice s hs1
      have hd := tail_data ht
      generalize s.extract 1 s.size = r at hsl hd
      by_cases k0 : t = []
      · have HV : Hid (headV s.data.toList = .tuple #[styleV true 0, .bool true]) := by show _ = _; rw [ht, k0]; rfl
        have ht0 := k0
        have ht1 := ht
        have ht2 := hd
        rw [k0] at hd
        obtain ⟨e1, e2, e3, e4, e5⟩ := empty_facts hd
        clear hd ht k0
        clear ht0 ht1 ht2
        go_enter Tryd.func83, Tryd.ntmps83
        go_wp2_with fail
        refine (P1.out _).mono ?_
        rintro e w1 ⟨rfl, rfl⟩
        go_wp2_with fail
        refine (P2.out _).mono ?_
        rintro e w1 ⟨rfl, rfl⟩
        go_wp2_with (refine wpList_store_row rfl 61 _ _ rfl w.heap.size #[.bool true, .int .i64 0] rfl rfl 61 _ (two_first _ _ _ _) (by kernel_rfl) rfl (style_one _ _) ?_)
        have hz := setRow_heap _ _ _ (#[Value.bool true, Value.int .i64 0] : Array Value) _ _ (two_first w #[Value.bool false, Value.int .i64 0] 61 (.cells #[.bool true, .int .i64 0] 61))
        have z0 := bl_block_cell hz 0
        have z1 := bl_block_cell hz 1
        refine bodyPost_ret (v := .tuple #[.agg #[.bool true, .int .i64 0], .bool true]) (by simp [results, Tryd.results83, go_sem, z0, z1]) rfl ⟨by rw [HV.out]; rfl, ?_⟩
        exact (((Below.refl _ _).alloc (Nat.le_refl _) _).alloc (by simp) _).trans (bl_setRow_below _ (Nat.le_refl _) _)
      · have kk0 := k0
        by_cases k1 : t = [45]
        · have HV : Hid (headV s.data.toList = .tuple #[styleV true 1, .bool true]) := by show _ = _; rw [ht, k1]; rfl
          have ht0 := k1
          have ht1 := ht
          have ht2 := hd
          rw [k1] at hd
          obtain ⟨e1, e2, e3, e4, e5⟩ := nonempty_facts (s := r) (by rw [hd]; simp)
          have g1 := str_cmp r [45] true (by rw [hd]; rfl)
          clear hd ht k1 k0
          clear ht0 ht1 ht2
          go_enter Tryd.func83, Tryd.ntmps83
          go_wp2_with fail
          refine (P1.out _).mono ?_
          rintro e w1 ⟨rfl, rfl⟩
          go_wp2_with fail
          refine (P2.out _).mono ?_
          rintro e w1 ⟨rfl, rfl⟩
          go_wp2_with (refine wpList_store_row rfl 61 _ _ rfl w.heap.size #[.bool true, .int .i64 1] rfl rfl 61 _ (two_first _ _ _ _) (by kernel_rfl) rfl (style_one _ _) ?_)
          have hz := setRow_heap _ _ _ (#[Value.bool true, Value.int .i64 1] : Array Value) _ _ (two_first w #[Value.bool false, Value.int .i64 0] 61 (.cells #[.bool true, .int .i64 1] 61))
          have z0 := bl_block_cell hz 0
          have z1 := bl_block_cell hz 1
          refine bodyPost_ret (v := .tuple #[.agg #[.bool true, .int .i64 1], .bool true]) (by simp [results, Tryd.results83, go_sem, z0, z1]) rfl ⟨by rw [HV.out]; rfl, ?_⟩
          exact (((Below.refl _ _).alloc (Nat.le_refl _) _).alloc (by simp) _).trans (bl_setRow_below _ (Nat.le_refl _) _)
        · have kk1 := k1
          by_cases k2 : t = [43]
          · have HV : Hid (headV s.data.toList = .tuple #[styleV true 2, .bool true]) := by show _ = _; rw [ht, k2]; rfl
            have ht0 := k2
            have ht1 := ht
            have ht2 := hd
            rw [k2] at hd
            obtain ⟨e1, e2, e3, e4, e5⟩ := nonempty_facts (s := r) (by rw [hd]; simp)
            have g1 := str_cmp r [45] false (by rw [hd]; rfl)
            have g2 := str_cmp r [43] true (by rw [hd]; rfl)
            clear hd ht k2 k0 k1
            clear ht0 ht1 ht2
            go_enter Tryd.func83, Tryd.ntmps83
            go_wp2_with fail
            refine (P1.out _).mono ?_
            rintro e w1 ⟨rfl, rfl⟩
            go_wp2_with fail
            refine (P2.out _).mono ?_
            rintro e w1 ⟨rfl, rfl⟩
            go_wp2_with (refine wpList_store_row rfl 61 _ _ rfl w.heap.size #[.bool true, .int .i64 2] rfl rfl 61 _ (two_first _ _ _ _) (by kernel_rfl) rfl (style_one _ _) ?_)
            have hz := setRow_heap _ _ _ (#[Value.bool true, Value.int .i64 2] : Array Value) _ _ (two_first w #[Value.bool false, Value.int .i64 0] 61 (.cells #[.bool true, .int .i64 2] 61))
            have z0 := bl_block_cell hz 0
            have z1 := bl_block_cell hz 1
            refine bodyPost_ret (v := .tuple #[.agg #[.bool true, .int .i64 2], .bool true]) (by simp [results, Tryd.results83, go_sem, z0, z1]) rfl ⟨by rw [HV.out]; rfl, ?_⟩
            exact (((Below.refl _ _).alloc (Nat.le_refl _) _).alloc (by simp) _).trans (bl_setRow_below _ (Nat.le_refl _) _)
          · have HV : Hid (headV s.data.toList = .tuple #[styleV false 0, .bool false]) := by show _ = _; unfold headV; rw [ht, headL_other k0 k1 k2]
            have ht0 := k0
            have ht1 := ht
            have ht2 := hd
            obtain ⟨e1, e2, e3, e4, e5⟩ := nonempty_facts (s := r) (by rw [hd]; exact k0)
            have g1 := str_cmp r [45] false (by rw [hd]; exact decide_eq_false k1)
            have g2 := str_cmp r [43] false (by rw [hd]; exact decide_eq_false k2)
            clear hd ht k0 k1 k2 kk0 kk1
            clear ht0 ht1 ht2
            go_enter Tryd.func83, Tryd.ntmps83
            go_wp2_with fail
            refine (P1.out _).mono ?_
            rintro e w1 ⟨rfl, rfl⟩
            go_wp2_with fail
            refine (P2.out _).mono ?_
            rintro e w1 ⟨rfl, rfl⟩
            go_wp2_with (refine wpList_store_row rfl 61 _ _ rfl w.heap.size #[.bool false, .int .i64 0] rfl rfl 61 _ (two_first _ _ _ _) (by kernel_rfl) rfl (style_one _ _) ?_)
            have hz := setRow_heap _ _ _ (#[Value.bool false, Value.int .i64 0] : Array Value) _ _ (two_first w #[Value.bool false, Value.int .i64 0] 61 (.cells #[.bool true, .int .i64 0] 61))
            have z0 := bl_block_cell hz 0
            have z1 := bl_block_cell hz 1
            refine bodyPost_ret (v := .tuple #[.agg #[.bool false, .int .i64 0], .bool false]) (by simp [results, Tryd.results83, go_sem, z0, z1]) rfl ⟨by rw [HV.out]; rfl, ?_⟩
            exact (((Below.refl _ _).alloc (Nat.le_refl _) _).alloc (by simp) _).trans (bl_setRow_below _ (Nat.le_refl _) _)
    · have hh1 := h1
      have HV : Hid (headV s.data.toList = .tuple #[styleV false 0, .bool false]) := by show _ = _; unfold headV; rw [headL_none (fun t h => h0 ⟨t, h⟩) (fun t h => h1 ⟨t, h⟩)]
      have P1 := Lib.hid (fun W => pre_no s 124 (fun t h => h0 ⟨t, h⟩) W)
      have P2 := Lib.hid (fun W => pre_no s 62 (fun t h => h1 ⟨t, h⟩) W)
      clear h0 h1 hh0 hh1
      go_enter Tryd.func83, Tryd.ntmps83
      go_wp2_with fail
      refine (P1.out _).mono ?_
      rintro e w1 ⟨rfl, rfl⟩
      go_wp2_with fail
      refine (P2.out _).mono ?_
      rintro e w1 ⟨rfl, rfl⟩
      go_wp2_with (refine wpList_store_row rfl 61 _ _ rfl w.heap.size #[.bool false, .int .i64 0] rfl rfl 61 _ (two_first _ _ _ _) (by kernel_rfl) rfl (style_one _ _) ?_)
      have hz := setRow_heap _ _ _ (#[Value.bool false, Value.int .i64 0] : Array Value) _ _ (two_first w #[Value.bool false, Value.int .i64 0] 61 (.cells #[.bool false, .int .i64 0] 61))
      have z0 := bl_block_cell hz 0
      have z1 := bl_block_cell hz 1
      refine bodyPost_ret (v := .tuple #[.agg #[.bool false, .int .i64 0], .bool false]) (by simp [results, Tryd.results83, go_sem, z0, z1]) rfl ⟨by rw [HV.out]; rfl, ?_⟩
      exact (((Below.refl _ _).alloc (Nat.le_refl _) _).alloc (by simp) _).trans (bl_setRow_below _ (Nat.le_refl _) _)
end Go.Proofs.YtnggbhpnpomfjaaDoor.Bl
