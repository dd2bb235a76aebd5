/- Small laws for the walks of a queue: blocks that lie, that are kept, that are set. Conditions: none. -/
import Derived.Test.YtiaonfmdjipekaaProg
import Derived.Test.YtiaonfmdjipekaaLsPure
import Derived.WalkKit
import Derived.Below
import Derived.BigQuiet
import Derived.Deep.QuietTactic
import Derived.Deep.LoopGhost
import Derived.Deep.DeepCutAuto
import Derived.Deep.RegionHeld3
import Derived.IntWalk
import Derived.Lib.Hide
import Derived.Laws.Tables
import Derived.Laws.AppendOwn
import Derived.ProofKit
set_option linter.unusedVariables false
namespace Go.Proofs.Ytiaonfmdjipekaa.Ls
open Go.RowKit
theorem blt {w : World} {i : Nat} {o : Obj} (h : w.heap[i]? = some o) : i < w.heap.size := (Array.getElem?_eq_some_iff.1 h).1
theorem bcell {w : World} {g : Nat} {cs : Array Value} {t : TypeId} {fr : Nat × Nat} (h : w.heap[g]? = some (.cells cs t fr)) (i : Nat) : w.cell? ⟨g, i, none⟩ = cs[i]? := by
  simp [World.cell?, h]
theorem bfree {w : World} {g : Nat} {cs : Array Value} {t : TypeId} (h : w.heap[g]? = some (.cells cs t (0, 0))) (i : Nat) : w.frozen? ⟨g, i, none⟩ = false := by
  simp [World.frozen?, h]
theorem heap_new (w : World) (cs : Array Value) (t : TypeId) : (w.alloc (.cells cs t)).heap[w.heap.size]? = some (.cells cs t (0, 0)) := heap_alloc_new w _
theorem dr {B : Nat} {a w : World} (h : Below B a w) (n : Nat) : Below B a (w.drewN n) := h.trans ⟨rfl, rfl, rfl, Nat.le_refl _, fun _ _ => rfl⟩
def cmpZ (a b : Int) : Int := if a < b then -1 else if b < a then 1 else 0
def orderZ (a b : Ent) : Int := if cmpZ a.til b.til ≠ 0 then cmpZ a.til b.til else cmpZ a.id b.id
theorem order_less (a b : Ent) : decide (orderZ a b < 0) = lessE a b := by
  unfold orderZ cmpZ lessE
  rcases Int.lt_trichotomy a.til b.til with h | h | h
  · have h2 : ¬ b.til < a.til := by omega
    simp [h]
  · have h2 : ¬ a.til < b.til := by omega
    have h3 : ¬ b.til < a.til := by omega
    simp [h2, h3, h]
    rcases Int.lt_trichotomy a.id b.id with k | k | k
    · simp [k]
    · have : ¬ a.id < b.id := by omega
      have : ¬ b.id < a.id := by omega
      simp [*]
    · have : ¬ a.id < b.id := by omega
      simp [*]
  · have h2 : ¬ a.til < b.til := by omega
    have h3 : ¬ a.til = b.til := by omega
    simp [h2, h3, h]
set_option maxRecDepth 100000 in
theorem compare_any (a b : Int) (w : World) : Calls Try.prog 42 #[.int .i64 a, .int .i64 b] w fun e w' => e = .returned (.int .i64 (cmpZ a b)) ∧ w = w' := by
  have NN : Hid (∀ (x : Int) W, Calls Try.prog 47 #[.int .i64 x] W fun e w' => e = .returned (.bool false) ∧ W = w') := fun x W => by
    have hx : (x != x) = false := by simp
    go_enter Try.func47, Try.ntmps47
    go_wp2_with fail
    go_ret
    exact ⟨rfl, rfl⟩
  rcases Int.lt_trichotomy a b with h | h | h
  · have HV : Hid (cmpZ a b = -1) := by show _ = _; unfold cmpZ; rw [if_pos h]
    go_enter Try.func42, Try.ntmps42
    go_wp2_with fail
    refine (NN.out _ _).mono ?_
    rintro e w1 ⟨rfl, rfl⟩
    go_wp2_with fail
    refine (NN.out _ _).mono ?_
    rintro e w1 ⟨rfl, rfl⟩
    go_wp2_with fail
    go_ret
    exact ⟨by rw [HV.out]; rfl, rfl⟩
  · have HV : Hid (cmpZ a b = 0) := by show _ = _; unfold cmpZ; rw [if_neg (by omega), if_neg (by omega)]
    have h1 : ¬ a < b := by omega
    have h2 : ¬ b < a := by omega
    clear h
    go_enter Try.func42, Try.ntmps42
    go_wp2_with fail
    refine (NN.out _ _).mono ?_
    rintro e w1 ⟨rfl, rfl⟩
    go_wp2_with fail
    refine (NN.out _ _).mono ?_
    rintro e w1 ⟨rfl, rfl⟩
    go_wp2_with fail
    go_ret
    exact ⟨by rw [HV.out]; rfl, rfl⟩
  · have HV : Hid (cmpZ a b = 1) := by show _ = _; unfold cmpZ; rw [if_neg (by omega), if_pos h]
    have h1 : ¬ a < b := by omega
    go_enter Try.func42, Try.ntmps42
    go_wp2_with fail
    refine (NN.out _ _).mono ?_
    rintro e w1 ⟨rfl, rfl⟩
    go_wp2_with fail
    refine (NN.out _ _).mono ?_
    rintro e w1 ⟨rfl, rfl⟩
    go_wp2_with fail
    go_ret
    exact ⟨by rw [HV.out]; rfl, rfl⟩
def orZ (a b : Int) : Int := if a ≠ 0 then a else b
set_option maxRecDepth 100000 in
theorem or_any (a b : Int) (g : Nat) (w : World) (h0 : w.cell? ⟨g, 0, none⟩ = some (.int .i64 a)) (h1 : w.cell? ⟨g, 1, none⟩ = some (.int .i64 b)) :
    Calls Try.prog 41 #[.slice (some ⟨g, 0, none⟩) 2 2] w fun e w' => e = .returned (.int .i64 (orZ a b)) ∧ w = w' := by
  by_cases ha : a = 0
  · by_cases hb : b = 0
    · have HV : Hid (orZ a b = 0) := by show _ = _; unfold orZ; rw [if_neg (by simp [ha]), hb]
      subst ha
      subst hb
      go_enter Try.func41, Try.ntmps41
      go_wp2_with fail
      go_loop [8] (fun v => ∃ k : Nat, k ≤ 2 ∧ v = .int .i64 (k : Nat)) (fun v => 2 - (intOf v).toNat)
      case atStart => exact ⟨0, by omega, rfl⟩
      case round =>
        obtain ⟨k, hk, rfl⟩ := hrel
        rcases (by omega : k = 0 ∨ k = 1 ∨ k = 2) with rfl | rfl | rfl
        · go_wp2_with fail
          go_round
          case rel => exact ⟨1, by omega, rfl⟩
          case measure => simp [intOf]
        · go_wp2_with fail
          go_round
          case rel => exact ⟨2, by omega, rfl⟩
          case measure => simp [intOf]
        · go_wp2_with fail
          go_ret
          exact ⟨by rw [HV.out]; rfl, rfl⟩
    · have HV : Hid (orZ a b = b) := by show _ = _; unfold orZ; rw [if_neg (by simp [ha])]
      have hq : (b != 0) = true := by simpa using hb
      subst ha
      go_enter Try.func41, Try.ntmps41
      go_wp2_with fail
      go_loop [8] (fun v => ∃ k : Nat, k ≤ 1 ∧ v = .int .i64 (k : Nat)) (fun v => 2 - (intOf v).toNat)
      case atStart => exact ⟨0, by omega, rfl⟩
      case round =>
        obtain ⟨k, hk, rfl⟩ := hrel
        rcases (by omega : k = 0 ∨ k = 1) with rfl | rfl
        · go_wp2_with fail
          go_round
          case rel => exact ⟨1, by omega, rfl⟩
          case measure => simp [intOf]
        · go_wp2_with fail
          go_ret
          exact ⟨by rw [HV.out]; rfl, rfl⟩
  · have HV : Hid (orZ a b = a) := by show _ = _; unfold orZ; rw [if_pos ha]
    have hq : (a != 0) = true := by simpa using ha
    go_enter Try.func41, Try.ntmps41
    go_wp2_with fail
    go_loop [8] (fun v => v = .int .i64 0) (fun v => 2 - (intOf v).toNat)
    case atStart => exact rfl
    case round =>
      obtain rfl := hrel
      go_wp2_with fail
      go_ret
      exact ⟨by rw [HV.out]; rfl, rfl⟩
theorem order_or (a b : Ent) : orderZ a b = orZ (cmpZ a.til b.til) (cmpZ a.id b.id) := rfl
/-- an entry that lies -/
def EntAt (w : World) (e : Ent) (k : Int) : Prop := w.heap[e.blk]? = some (.cells #[.int .i64 e.id, .int .i64 e.til, .int .i64 k] 64 (0, 0))
theorem EntAt.below {w w' : World} {e : Ent} {k : Int} (h : EntAt w e k) (hb : Below w.heap.size w w') : EntAt w' e k := (hb.block _ (blt h)).trans h
set_option maxRecDepth 100000 in
set_option maxHeartbeats 1600000 in
theorem order_any (a b : Ent) (ka kb : Int) (w : World) (ha : EntAt w a ka) (hb : EntAt w b kb) :
    Calls Try.prog 31 #[.pointer (some ⟨a.blk, 0, none⟩), .pointer (some ⟨b.blk, 0, none⟩)] w fun e w' => e = .returned (.int .i64 (orderZ a b)) ∧ Below w.heap.size w w' := by
  have HV : Hid (orderZ a b = orZ (cmpZ a.til b.til) (cmpZ a.id b.id)) := order_or a b
  obtain ⟨ab, ai, at_⟩ := a
  obtain ⟨bb, bi, bt⟩ := b
  have a0 := bcell ha 0
  have a1 := bcell ha 1
  have b0 := bcell hb 0
  have b1 := bcell hb 1
  have la := blt ha
  have lb := blt hb
  simp only at HV a0 a1 b0 b1 la lb ⊢
  have C1 := Lib.hid (fun W => (compare_any at_ bt W).mono (fun e w' h => (⟨h.1, h.2 ▸ Below.refl _ _⟩ : e = .returned (.int .i64 (cmpZ at_ bt)) ∧ Below W.heap.size W w')))
  have C2 := Lib.hid (fun W => (compare_any ai bi W).mono (fun e w' h => (⟨h.1, h.2 ▸ Below.refl _ _⟩ : e = .returned (.int .i64 (cmpZ ai bi)) ∧ Below W.heap.size W w')))
  generalize cmpZ at_ bt = c1 at C1 HV
  generalize cmpZ ai bi = c2 at C2 HV
  have OR := Lib.hid (fun W : World => (or_any c1 c2 W.heap.size (W.alloc (.cells #[.int .i64 c1, .int .i64 c2] 3)) (bcell (heap_new W _ _) 0) (bcell (heap_new W _ _) 1)).mono (fun e w' h => (⟨h.1, h.2 ▸ Below.refl _ _⟩ : e = .returned (.int .i64 (orZ c1 c2)) ∧ Below (W.alloc (.cells #[.int .i64 c1, .int .i64 c2] 3)).heap.size (W.alloc (.cells #[.int .i64 c1, .int .i64 c2] 3)) w')))
  clear ha hb
  go_enter Try.func31, Try.ntmps31
  go_wp2_with fail
  have SB : ∀ V V' : World, Below V.heap.size V V' → (Below w.heap.size w V ∧ V.cell? ⟨ab, 0, none⟩ = some (.int .i64 ai) ∧ V.cell? ⟨ab, 1, none⟩ = some (.int .i64 at_) ∧ V.cell? ⟨bb, 0, none⟩ = some (.int .i64 bi) ∧ V.cell? ⟨bb, 1, none⟩ = some (.int .i64 bt)) →
      (Below w.heap.size w V' ∧ V'.cell? ⟨ab, 0, none⟩ = some (.int .i64 ai) ∧ V'.cell? ⟨ab, 1, none⟩ = some (.int .i64 at_) ∧ V'.cell? ⟨bb, 0, none⟩ = some (.int .i64 bi) ∧ V'.cell? ⟨bb, 1, none⟩ = some (.int .i64 bt)) := by
    rintro V V' hB ⟨h0, h1, h2, h3, h4⟩
    have hs := h0.size
    exact ⟨h0.trans (hB.mono h0.size), (hB.cell (p := ⟨ab, 0, none⟩) (by simp; omega)).trans h1, (hB.cell (p := ⟨ab, 1, none⟩) (by simp; omega)).trans h2, (hB.cell (p := ⟨bb, 0, none⟩) (by simp; omega)).trans h3, (hB.cell (p := ⟨bb, 1, none⟩) (by simp; omega)).trans h4⟩
  have SBH := Lib.hid SB
  clear SB
  have D0 : Hid (Below w.heap.size w w.drew ∧ w.drew.cell? ⟨ab, 0, none⟩ = some (.int .i64 ai) ∧ w.drew.cell? ⟨ab, 1, none⟩ = some (.int .i64 at_) ∧ w.drew.cell? ⟨bb, 0, none⟩ = some (.int .i64 bi) ∧ w.drew.cell? ⟨bb, 1, none⟩ = some (.int .i64 bt)) := ⟨(Below.refl _ _).drew, a0, a1, b0, b1⟩
  go_region_held3 (fun w' => Below w.heap.size w w' ∧ w'.cell? ⟨ab, 0, none⟩ = some (.int .i64 ai) ∧ w'.cell? ⟨ab, 1, none⟩ = some (.int .i64 at_) ∧ w'.cell? ⟨bb, 0, none⟩ = some (.int .i64 bi) ∧ w'.cell? ⟨bb, 1, none⟩ = some (.int .i64 bt))
    (first
      | exact D0.out
      | exact SBH.out _ _ (by assumption) (by assumption)
      | exact SBH.out _ _ (by assumption) ⟨by assumption, by assumption, by assumption, by assumption, by assumption⟩
      | exact SBH.out _ _ (by assumption) D0.out
      | exact SBH.out _ _ ((Below.refl _ _).alloc (Nat.le_refl _) _) (by assumption)
      | exact SBH.out _ _ ((Below.refl _ _).alloc (Nat.le_refl _) _) ⟨by assumption, by assumption, by assumption, by assumption, by assumption⟩
      | assumption
      | go_keep)
    (first
      | (go_at_call 42; (with_reducible refine (C1.out _).mono ?_); rintro e wa ⟨rfl, hba⟩)
      | (go_at_call 42; (with_reducible refine (C2.out _).mono ?_); rintro e wb ⟨rfl, hbb⟩)
      | (go_at_call 41; (with_reducible refine (OR.out _).mono ?_); rintro e wc ⟨rfl, hbc⟩)
      | fail)
  rename_i hh
  have HF : Hid (Below w.heap.size w wc) := hh.1
  clear hh hba hbb hbc
  go_wp2_with fail
  go_ret
  exact ⟨by rw [HV.out]; rfl, HF.out⟩
end Go.Proofs.Ytiaonfmdjipekaa.Ls
