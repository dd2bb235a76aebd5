/- Walks: are two rows of numbers the same: the document's Ints. Conditions: rows that lie. -/
import Derived.Test.YtiaonfmdjipekaaLsDue
set_option linter.unusedVariables false
namespace Go.Proofs.Ytiaonfmdjipekaa.Ls
open Go.RowKit Go.Maps
/-- a row of numbers lies -/
def RowI (w : World) (v : Value) (l : List Int) : Prop := w.ownsRow 0 3 1 v l.length (intVs l)
structure IntsAt (w : World) (A : Option Addr) (l : List Int) : Prop where
  get : ∀ i, i < l.length → ∃ b, A = some ⟨b, 0, none⟩ ∧ b < w.heap.size ∧ w.cell? ⟨b, i, none⟩ = some (.int .i64 (l.getD i 0))
theorem RowI.open_ {w : World} {v : Value} {l : List Int} (h : RowI w v l) : ∃ A c, v = .slice A l.length c ∧ IntsAt w A l ∧ (∀ g, v.ownBlock = some g ↔ A = some ⟨g, 0, none⟩) := by
  rcases h.2 with ⟨h1, h0⟩ | ⟨g, cap, cur, h1, _, hh, hn, _, hc, ht⟩
  · rw [h1]
    exact ⟨none, 0, by rw [h0], ⟨fun i hi => by omega⟩, fun g => by simp [Value.ownBlock]⟩
  · refine ⟨_, cap, h1, ⟨fun i hi => ⟨g, rfl, blt hh, ?_⟩⟩, fun g' => by rw [h1]; simp [Value.ownBlock]⟩
    rw [bcell hh, ← Array.getElem?_toList]
    have e : (cur.toList.take (l.length * 1))[i]? = cur.toList[i]? := by rw [List.getElem?_take, if_pos (by omega)]
    rw [← e, ht]
    simp [intVs, List.getD_eq_getElem?_getD, hi]
theorem IntsAt.below {w w' : World} {A : Option Addr} {l : List Int} (h : IntsAt w A l) (hb : Below w.heap.size w w') : IntsAt w' A l :=
  ⟨fun i hi => by
    obtain ⟨b, h1, h2, h3⟩ := h.get i hi
    exact ⟨b, h1, Nat.lt_of_lt_of_le h2 hb.size, by rw [← h3]; unfold World.cell?; rw [hb.block b h2]⟩⟩
theorem list_ext0 {l m : List Int} (hl : l.length = m.length) (h : ∀ j, j < l.length → l.getD j 0 = m.getD j 0) : l = m := by
  refine List.ext_getElem hl fun i h1 h2 => ?_
  have := h i h1
  rw [List.getD_eq_getElem?_getD, List.getD_eq_getElem?_getD, List.getElem?_eq_getElem h1, List.getElem?_eq_getElem h2] at this
  exact this
set_option maxRecDepth 100000 in
set_option maxHeartbeats 1600000 in
theorem ints_any (A A' : Option Addr) (c c' : Nat) (l m : List Int) (w : World) (g : IntsAt w A l) (g' : IntsAt w A' m) (hl : l.length ≤ 2000000) (hm : m.length ≤ 2000000) :
    Calls Try.prog 23 #[.slice A l.length c, .slice A' m.length c'] w fun e w' => e = .returned (.bool (decide (l = m))) ∧ Hid (Below w.heap.size w w') := by
  have G := Lib.hid g
  have G' := Lib.hid g'
  clear g g'
  by_cases hle : l.length = m.length
  case neg =>
    have hq : ((l.length : Int) != (m.length : Int)) = true := by rw [bne_iff_ne]; omega
    have hq2 : ((l.length : Int) == (m.length : Int)) = false := by rw [beq_eq_false_iff_ne]; omega
    have HV : Hid (decide (l = m) = false) := decide_eq_false fun e => hle (by rw [e])
    rw [HV.out]
    clear hle
    generalize l.length = a at hq hq2 ⊢
    generalize m.length = b at hq hq2 ⊢
    go_enter Try.func23, Try.ntmps23
    go_wp2_with fail
    go_ret
    exact ⟨rfl, Below.refl _ _⟩
  case pos =>
    have HLE := Lib.hid hle
    rw [← hle]
    have hq : ((l.length : Int) != (l.length : Int)) = false := by simp
    have YES : Hid ((∀ j, j < l.length → l.getD j 0 = m.getD j 0) → decide (l = m) = true) := fun h => decide_eq_true (list_ext0 HLE.out h)
    have NO : Hid (∀ k, l.getD k 0 ≠ m.getD k 0 → decide (l = m) = false) := fun k h => decide_eq_false fun e => h (by rw [e])
    obtain ⟨R, hR⟩ : ∃ R, R = decide (l = m) := ⟨_, rfl⟩
    rw [← hR] at YES NO ⊢
    obtain ⟨n, hn⟩ : ∃ n, n = l.length := ⟨_, rfl⟩
    rw [← hn] at YES hq hl ⊢
    have HNN := Lib.hid hn
    clear hle hm hn hR
    go_enter Try.func23, Try.ntmps23
    go_wp2_with fail
    go_loopw [5] (fun i wr => ∃ k : Nat, k ≤ n ∧ i = .int .i64 (k : Nat) ∧ Hid (∀ j, j < k → l.getD j 0 = m.getD j 0) ∧ ∃ r, wr = w.drewN r) (fun i _ => n - (intOf i).toNat)
    case atStart => exact ⟨0, Nat.zero_le _, rfl, (fun j h => by omega), 0, rfl⟩
    case round =>
      obtain ⟨k, hk, rfl, hno, r, rfl⟩ := hrel
      by_cases hlt : k < n
      · obtain ⟨b, hA, hbl, hc0⟩ := G.out.get k (by rw [← HNN.out]; exact hlt)
        obtain ⟨b', hA', hbl', hd0⟩ := G'.out.get k (by rw [← HLE.out, ← HNN.out]; exact hlt)
        have NOK := Lib.hid (NO.out k)
        have HNX : Hid (l.getD k 0 = m.getD k 0 → ∀ j, j < k + 1 → l.getD j 0 = m.getD j 0) := fun h j hj => by
          rcases Nat.lt_or_ge j k with h1 | h1
          · exact hno.out j h1
          · have : j = k := by omega
            subst this; exact h
        subst hA hA'
        generalize l.getD k 0 = x at hc0 HNX NOK
        generalize m.getD k 0 = y at hd0 HNX NOK
        have hi1 : (0 : Int) ≤ (k : Int) := by omega
        have hi2 : (k : Int) < (n : Int) := by omega
        clear hno
        by_cases hxy : x = y
        · have HN := Lib.hid (HNX.out hxy)
          have hq1 : (x != y) = false := by simp [hxy]
          have hq2 : (x == y) = true := by simp [hxy]
          clear HNX NOK hxy
          go_wp2_with fail
          go_quiet (fail)
          go_wp2_with fail
          go_roundw
          case rel => exact ⟨k + 1, by omega, by go_num, HN.out, _, rfl⟩
          case measure => simp [intOf]; omega
        · have HV := Lib.hid (NOK.out hxy)
          have hq1 : (x != y) = true := by simp [hxy]
          have hq2 : (x == y) = false := by simp [hxy]
          clear HNX NOK hxy
          go_wp2_with fail
          go_quiet (fail)
          go_wp2_with fail
          go_ret
          exact ⟨by rw [HV.out]; rfl, dr (dr (Below.refl _ _) _) _⟩
      · obtain rfl : k = n := by omega
        have HV : Hid (R = true) := YES.out hno.out
        clear hno
        go_wp2_with fail
        go_ret
        exact ⟨by rw [HV.out]; rfl, dr (Below.refl _ _) _⟩
end Go.Proofs.Ytiaonfmdjipekaa.Ls
