/- The document's side: is no node paired with two. Conditions: none but lengths. -/
import Derived.Test.YtpgncjfmaeiaaaaDoorIsRefA
set_option linter.unusedVariables false
namespace Go.Proofs.YtpgncjfmaeiaaaaDoor.Is
open Go.RowKit
def share2 (x y : Int × Int) : Prop := x.1 = y.1 ∨ x.2 = y.2
def NoShare (l : PrL) (n : Nat) : Prop := ∀ i k, i < n → k < i → ¬ share2 (l.getD k (0, 0)) (l.getD i (0, 0))
def OncePost (l : PrL) (w : World) (e : Ending) (w' : World) : Prop := ∃ b, e = .returned (.bool b) ∧ (b = true ↔ NoShare l l.length) ∧ Below w.heap.size w w'
set_option maxRecDepth 100000 in
set_option maxHeartbeats 6400000 in
theorem once_any (A : Option Addr) (c : Nat) (l : PrL) (w : World) (G : PrRow w A l) (hl : l.length ≤ 20000000) :
    Calls Tryd.prog 23 #[.slice A l.length c] w (OncePost l w) := by
  obtain ⟨n, hn⟩ : ∃ n, n = l.length := ⟨_, rfl⟩
  have HN := Lib.hid hn
  have HG := Lib.hid G
  rw [← hn] at hl ⊢
  unfold OncePost
  rw [← hn]
  clear G hn
  go_enter Tryd.func23, Tryd.ntmps23
  go_wp2_with fail
  go_loopw [3] (fun v wr => ∃ i : Nat, i ≤ n ∧ v = .int .i64 (i : Nat) ∧ Hid (NoShare l i) ∧ Hid (Below w.heap.size w wr)) (fun v _ => n - (intOf v).toNat)
  case atStart => exact ⟨0, Nat.zero_le _, rfl, fun i k hi => absurd hi (Nat.not_lt_zero _), Below.refl _ _⟩
  case round =>
    obtain ⟨i, hi, rfl, hns, hv⟩ := hrel
    by_cases hlt : i < n
    · have hltI : (i : Int) < (n : Int) := by omega
      go_wp2_with fail
      go_loopw [4] (fun v wz => ∃ k : Nat, k ≤ i ∧ v = .int .i64 (k : Nat) ∧ Hid (∀ j, j < k → ¬ share2 (l.getD j (0, 0)) (l.getD i (0, 0))) ∧ Hid (Below w.heap.size w wz)) (fun v _ => i - (intOf v).toNat)
      case atStart => exact ⟨0, Nat.zero_le _, rfl, fun j hj => absurd hj (Nat.not_lt_zero _), hv.out⟩
      case round =>
        clear hv
        obtain ⟨k, hk, rfl, hnk, hv⟩ := hrel
        by_cases hlk : k < i
        · have hlkI : (k : Int) < (i : Int) := by omega
          have hknI : (k : Int) < (n : Int) := by omega
          obtain ⟨b, off, hA, hbl, c0, c1⟩ := (HG.out.below hv.out) k (by rw [← HN.out]; omega)
          obtain ⟨b', off', hA', hbl', d0, d1⟩ := (HG.out.below hv.out) i (by rw [← HN.out]; omega)
          obtain ⟨rfl, rfl⟩ : b = b' ∧ off = off' := by
            rw [hA] at hA'
            injection hA' with h
            injection h with h1 h2
            exact ⟨h1, h2⟩
          have HNX : Hid (¬ share2 (l.getD k (0, 0)) (l.getD i (0, 0)) → ∀ j, j < k + 1 → ¬ share2 (l.getD j (0, 0)) (l.getD i (0, 0))) := fun h j hj => by
            rcases Nat.lt_succ_iff_lt_or_eq.1 hj with e | e
            · exact hnk.out j e
            · rw [e]; exact h
          have HBAD : Hid (share2 (l.getD k (0, 0)) (l.getD i (0, 0)) → ¬ NoShare l n) := fun h hn2 => hn2 i k hlt hlk h
          generalize l.getD k (0, 0) = y at c0 c1 HNX HBAD
          generalize l.getD i (0, 0) = x at d0 d1 HNX HBAD
          obtain ⟨ya, yb⟩ := y
          obtain ⟨xa, xb⟩ := x
          simp only at c0 c1 d0 d1
          subst hA
          clear hA' hnk
          by_cases e1 : ya = xa
          · have e1I : (ya == xa) = true := by rw [beq_iff_eq]; exact e1
            have HB2 := Lib.hid (HBAD.out (Or.inl e1))
            clear e1 HNX HBAD
            go_wp2_with fail
            go_quiet (fail)
            go_wp2_with fail
            go_ret
            exact ⟨false, rfl, ⟨fun h => (by cases h), fun h => absurd h HB2.out⟩, dr hv.out _⟩
          · have e1I : (ya == xa) = false := by rw [beq_eq_false_iff_ne]; exact e1
            by_cases e2 : yb = xb
            · have e2I : (yb == xb) = true := by rw [beq_iff_eq]; exact e2
              have HB2 := Lib.hid (HBAD.out (Or.inr e2))
              clear e1 e2 HNX HBAD
              go_wp2_with fail
              go_quiet (fail)
              go_wp2_with fail
              go_ret
              exact ⟨false, rfl, ⟨fun h => (by cases h), fun h => absurd h HB2.out⟩, dr hv.out _⟩
            · have e2I : (yb == xb) = false := by rw [beq_eq_false_iff_ne]; exact e2
              have HN2 := Lib.hid (HNX.out (fun h => by rcases h with h | h; exact e1 h; exact e2 h))
              clear e1 e2 HNX HBAD
              go_wp2_with fail
              go_quiet (fail)
              go_wp2_with fail
              go_roundw
              case rel => exact ⟨k + 1, by omega, by go_num, HN2.out, dr hv.out _⟩
              case measure => simp [intOf]; omega
        · obtain rfl : k = i := by omega
          have hlkI : ¬ ((k : Int) < (k : Int)) := by omega
          have HNS : Hid (NoShare l (k + 1)) := fun i j hi hj => by
            rcases Nat.lt_succ_iff_lt_or_eq.1 hi with e | e
            · exact hns.out i j e hj
            · subst e; exact hnk.out j hj
          go_wp2_with fail
          go_roundw
          case rel => exact ⟨k + 1, by omega, by go_num, HNS.out, hv.out⟩
          case measure => simp [intOf]; omega
    · obtain rfl : i = n := by omega
      go_wp2_with fail
      go_ret
      exact ⟨_, rfl, ⟨fun _ => hns.out, fun _ => rfl⟩, hv.out⟩
end Go.Proofs.YtpgncjfmaeiaaaaDoor.Is
