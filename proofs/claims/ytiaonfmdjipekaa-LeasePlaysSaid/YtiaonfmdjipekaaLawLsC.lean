/- Law: LeaseFull. Conditions: none. -/
import Derived.Test.YtiaonfmdjipekaaLawLsB
set_option linter.unusedVariables false
namespace Go.Proofs.Ytiaonfmdjipekaa.Ls
open Go.RowKit Go.Maps
/-- what a queue has when 1, 2 .. were put, k of them -/
def fullL (t : Int) (k : Nat) : List Pr := (List.range (min k 1024)).map fun i => (((i + 1 : Nat) : Int), t)
theorem fullL_len (t : Int) (k : Nat) : (fullL t k).length = min k 1024 := by simp [fullL]
theorem fullL_ids (t : Int) (k : Nat) : ids (fullL t k) = (List.range (min k 1024)).map fun i => ((i + 1 : Nat) : Int) := by
  unfold ids fullL
  rw [List.map_map]
  rfl
theorem fullL_not (t : Int) (k : Nat) : (((k + 1 : Nat) : Int)) ∉ ids (fullL t k) := by
  rw [fullL_ids]
  intro h
  obtain ⟨i, hi, e⟩ := List.mem_map.1 h
  have := List.mem_range.1 hi
  omega
theorem fullL_succ (t : Int) {k : Nat} (h : k < 1024) : fullL t (k + 1) = fullL t k ++ [(((k + 1 : Nat) : Int), t)] := by
  unfold fullL
  rw [Nat.min_eq_left (by omega), Nat.min_eq_left (by omega), List.range_succ, List.map_append]
  rfl
theorem fullL_sorted (t : Int) (k : Nat) : (fullL t k).Pairwise ltP := by
  unfold fullL
  rw [List.pairwise_map]
  refine List.pairwise_lt_range.imp fun h => Or.inr ⟨rfl, ?_⟩
  simp only
  omega
theorem fullL_put (t : Int) (k : Nat) : putR (fullL t k) ((k + 1 : Nat) : Int) t = fullL t (k + 1) ∧ putC (fullL t k) ((k + 1 : Nat) : Int) = if k < 1024 then 0 else 5 := by
  have h1 : ¬ (((k + 1 : Nat) : Int) < 1) := by omega
  unfold putR putC
  rw [if_neg h1, if_neg h1, if_neg (fullL_not t k), if_neg (fullL_not t k), fullL_len]
  by_cases h : k < 1024
  · rw [if_neg (by omega), if_neg (by omega), if_pos h]
    refine ⟨sorted_unique ?_ (insP_sorted _ _ (fullL_sorted t k) (fullL_not t k)) (fullL_sorted t (k + 1)), rfl⟩
    rw [fullL_succ t h]
    exact (insP_perm _ _).trans (List.perm_append_singleton _ _).symm
  · rw [if_pos (by omega), if_pos (by omega), if_neg h]
    refine ⟨?_, rfl⟩
    unfold fullL
    rw [Nat.min_eq_right (by omega), Nat.min_eq_right (by omega)]
theorem fullL_one (t : Int) {k : Nat} (h : 0 < k) : (putR (fullL t k) 1 7).length = min k 1024 ∧ putC (fullL t k) 1 = 0 := by
  have hm : (1 : Int) ∈ ids (fullL t k) := by
    rw [fullL_ids]
    exact List.mem_map.2 ⟨0, List.mem_range.2 (by omega), rfl⟩
  have hn : (ids (fullL t k)).Nodup := by
    rw [fullL_ids, List.Nodup, List.pairwise_map]
    exact List.pairwise_lt_range.imp fun h e => by omega
  have h1 : ¬ ((1 : Int) < 1) := by omega
  unfold putR putC
  rw [if_neg h1, if_neg h1, if_pos hm, if_pos hm, (insP_perm _ _).length_eq, List.length_cons, remP_len hn hm, fullL_len]
  exact ⟨rfl, rfl⟩
structure FullSt (w : World) (q : Nat) (L : List Pr) (k : Nat) (wr : World) : Prop where
  que : Que wr (fun b => b < w.heap.size) q L k
  bel : Below w.heap.size w wr
theorem FullSt.put {w : World} {q : Nat} {L : List Pr} {k : Nat} {wr : World} (S : FullSt w q L k wr) (hk : k < 1000000) {x t : Int} (hx : wf64 x) (ht : wf64 t) :
    Calls Try.prog 17 #[.pointer (some ⟨q, 0, none⟩), .int .i64 x, .int .i64 t] wr fun e w' => e = .returned (.int .i64 (putC L x)) ∧ Hid (FullSt w q (putR L x t) (k + 1) w') :=
  (put_any wr _ q L k S.que (by omega) x t hx ht).mono fun e w' ⟨h1, h2, h3⟩ => ⟨h1, h2.out, S.bel.trans (keep_below h3.out S.bel.size)⟩
theorem FullSt.len {w : World} {q : Nat} {L : List Pr} {k : Nat} {wr : World} (S : FullSt w q L k wr) {m : Nat} (hm : L.length = m) :
    Calls Try.prog 13 #[.pointer (some ⟨q, 0, none⟩)] wr fun e w' => e = .returned (.int .i64 (m : Nat)) ∧ wr = w' := hm ▸ qlen_any wr _ q L k S.que
theorem FullSt.all {w : World} {q : Nat} {L : List Pr} {k : Nat} {wr : World} (S : FullSt w q L k wr) {m : Nat} (hm : L.length = m) :
    Calls Try.prog 18 #[.pointer (some ⟨q, 0, none⟩)] wr fun e w' => ∃ A c, e = .returned (.slice A m c) ∧ Hid (IntsAt w' A (ids L)) ∧ Hid (FullSt w q L k w') := by
  refine (all_any wr _ q L k S.que).mono ?_
  rintro e w' ⟨v, rfl, h1, h2, h3⟩
  obtain ⟨A, c, e1, i1, _⟩ := h1.out.open_
  subst e1
  have hl : (ids L).length = m := by rw [← hm]; simp [ids]
  rw [hl]
  exact ⟨A, c, rfl, i1, S.que.below h3.out, S.bel.trans (h3.out.mono S.bel.size)⟩
set_option maxRecDepth 100000 in
set_option maxHeartbeats 3200000 in
theorem law_LeaseFull (w : World) (many : Nat) (hmany : many < 65536) (t : Int) (ht : -9223372036854775808 ≤ t ∧ t ≤ 9223372036854775807) :
    Calls Try.prog 4 #[.int .u16 (many : Nat), .int .i64 t] w (LawPost w) := by
  have AL := Lib.hid (fun V => alive_any V)
  have NW : Hid (Calls Try.prog 9 #[] w fun e w' => ∃ q, e = .returned (.pointer (some ⟨q, 0, none⟩)) ∧ Hid (FullSt w q (fullL t 0) 0 w')) :=
    (new_any w (fun b => b < w.heap.size) (fun k h => h)).mono fun e w' ⟨h1, h2, h3⟩ => ⟨_, h1, h2.out, h3.out⟩
  have WT : Hid (wf64 t) := ⟨by omega, by omega⟩
  have PT : Hid (∀ (q k : Nat) (wr : World), k < 1100 → FullSt w q (fullL t k) k wr → Calls Try.prog 17 #[.pointer (some ⟨q, 0, none⟩), .int .i64 ((k : Int) + 1), .int .i64 t] wr fun e w' => e = .returned (.int .i64 (if k < 1024 then 0 else 5)) ∧ Hid (FullSt w q (fullL t (k + 1)) (k + 1) w')) := fun q k wr hk S => by
    have h := fullL_put t k
    have h2 := S.put (by omega) (x := ((k + 1 : Nat) : Int)) ⟨by omega, by omega⟩ WT.out
    rw [h.1, h.2] at h2
    exact h2
  have ONE : Hid (∀ (q k : Nat) (wr : World), 0 < k → k < 1101 → FullSt w q (fullL t k) k wr → Calls Try.prog 17 #[.pointer (some ⟨q, 0, none⟩), .int .i64 1, .int .i64 7] wr fun e w' => e = .returned (.int .i64 0) ∧ ∃ L, Hid (L.length = min k 1024) ∧ Hid (FullSt w q L (k + 1) w')) := fun q k wr h0 hk S => by
    have h := fullL_one t h0
    have h2 := S.put (by omega) (x := 1) (t := 7) ⟨by omega, by omega⟩ ⟨by omega, by omega⟩
    rw [h.2] at h2
    exact h2.mono fun e w' ⟨a, b⟩ => ⟨a, _, h.1, b⟩
  have LN : Hid (∀ (q k m : Nat) (L : List Pr) (wr : World), FullSt w q L k wr → L.length = m → Calls Try.prog 13 #[.pointer (some ⟨q, 0, none⟩)] wr fun e w' => e = .returned (.int .i64 (m : Nat)) ∧ wr = w') := fun q k m L wr S hm => S.len hm
  have AA : Hid (∀ (q k m : Nat) (L : List Pr) (wr : World), FullSt w q L k wr → L.length = m → Calls Try.prog 18 #[.pointer (some ⟨q, 0, none⟩)] wr fun e w' => ∃ A c, e = .returned (.slice A m c) ∧ Hid (IntsAt w' A (ids L)) ∧ Hid (FullSt w q L k w')) := fun q k m L wr S hm => S.all hm
  have hwr : IntKind.i64.wrap (many : Int) = (many : Int) := by rw [IntKind.wrap_i64]; omega
  obtain ⟨n, hn⟩ : ∃ n, n = many % 1100 := ⟨_, rfl⟩
  have hmod : Int.tmod (many : Int) 1100 = (n : Int) := by rw [hn, Int.tmod_eq_emod_of_nonneg (by omega)]; omega
  have hn3 : n < 1100 := by omega
  clear hn ht
  go_enter Try.func4, Try.ntmps4
  go_wp2_with (go_at_call 9; (with_reducible refine NW.out.mono ?_); rintro e w1 ⟨q, rfl, F0⟩)
  go_loopw [16] (fun v wr => ∃ k : Nat, k ≤ n ∧ v = .int .i64 (k : Nat) ∧ Hid (FullSt w q (fullL t k) k wr)) (fun v _ => n - (intOf v).toNat)
  case atStart => exact ⟨0, Nat.zero_le _, rfl, F0⟩
  case round =>
    clear F0 NW hmod hwr hmany
    obtain ⟨k, hk, rfl, FK⟩ := hrel
    by_cases hlt : k < n
    · have hkI : (k : Int) < (n : Int) := by omega
      have P1 := PT.out q k wr (by omega) FK.out
      by_cases h4 : k < 1024
      · rw [if_pos h4] at P1
        have P2 := Lib.hid P1
        have h4I : (k : Int) < 1024 := by omega
        clear P1
        go_wp2_with (go_at_call 17; (with_reducible refine P2.out.mono ?_); rintro e w2 ⟨rfl, F2⟩)
        go_roundw
        case rel => exact ⟨k + 1, by omega, by go_num, F2⟩
        case measure => simp [intOf]; omega
      · rw [if_neg h4] at P1
        have P2 := Lib.hid P1
        have h4I : ¬ ((k : Int) < 1024) := by omega
        clear P1
        go_wp2_with (go_at_call 17; (with_reducible refine P2.out.mono ?_); rintro e w2 ⟨rfl, F2⟩)
        go_roundw
        case rel => exact ⟨k + 1, by omega, by go_num, F2⟩
        case measure => simp [intOf]; omega
    · obtain rfl : k = n := by omega
      obtain ⟨m, hm⟩ : ∃ m, m = min k 1024 := ⟨_, rfl⟩
      have hq : ((m : Int) == min (k : Int) 1024) = true := by rw [beq_iff_eq]; omega
      have hq2 : ((m : Int) == (m : Int)) = true := by simp
      have hmin : min (k : Int) 1024 = (m : Int) := by omega
      by_cases h0 : 0 < k
      · have P1 := ONE.out q k wr h0 (by omega) FK.out
        rw [← hm] at P1
        have P2 := Lib.hid P1
        have h0I : (0 : Int) < (k : Int) := by omega
        clear P1 hm hlt
        go_wp2_with (first
          | (go_at_call 17; (with_reducible refine P2.out.mono ?_); rintro e w2 ⟨rfl, L, hL, F2⟩)
          | (go_at_call 13; first
              | ((with_reducible refine (LN.out _ _ m L _ F3.out hL.out).mono ?_); rintro e w4 ⟨rfl, rfl⟩)
              | ((with_reducible refine (LN.out _ _ m L _ F2.out hL.out).mono ?_); rintro e w4 ⟨rfl, rfl⟩)
              | fail)
          | (go_at_call 18; (with_reducible refine (AA.out _ _ m L _ F2.out hL.out).mono ?_); rintro e w3 ⟨A', c', rfl, I3, F3⟩)
          | (go_at_call 16; (with_reducible refine (AL.out _).mono ?_); rintro e w5 ⟨rfl, b5⟩))
        go_ret
        exact ⟨rfl, F3.out.bel.trans (b5.out.mono F3.out.bel.size)⟩
      · have h0I : ¬ ((0 : Int) < (k : Int)) := by omega
        have hL : Hid ((fullL t k).length = m) := by show _ = _; rw [fullL_len, hm]
        have F2 := FK
        generalize fullL t k = L at hL F2
        clear hm hlt FK h0
        go_wp2_with (first
          | (go_at_call 13; first
              | ((with_reducible refine (LN.out _ _ m L _ F3.out hL.out).mono ?_); rintro e w4 ⟨rfl, rfl⟩)
              | ((with_reducible refine (LN.out _ _ m L _ F2.out hL.out).mono ?_); rintro e w4 ⟨rfl, rfl⟩)
              | fail)
          | (go_at_call 18; (with_reducible refine (AA.out _ _ m L _ F2.out hL.out).mono ?_); rintro e w3 ⟨A', c', rfl, I3, F3⟩)
          | (go_at_call 16; (with_reducible refine (AL.out _).mono ?_); rintro e w5 ⟨rfl, b5⟩))
        go_ret
        exact ⟨rfl, F3.out.bel.trans (b5.out.mono F3.out.bel.size)⟩
end Go.Proofs.Ytiaonfmdjipekaa.Ls
