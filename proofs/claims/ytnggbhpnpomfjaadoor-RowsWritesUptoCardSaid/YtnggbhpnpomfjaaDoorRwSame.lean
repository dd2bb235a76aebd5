/- Walks: are two rows of rows the same: the document's Same, the library's Equal, the program's Same. Conditions: no more than 2^44 rows. -/
import Derived.Test.YtnggbhpnpomfjaaDoorRwRead
set_option linter.unusedVariables false
namespace Go.Proofs.YtnggbhpnpomfjaaDoor.Bl
open Go.RowKit
theorem rows_own {w : World} {base : Nat} {A : Option Addr} {c n : Nat} {rs : List Rw} (h : w.ownsRow base 53 3 (.slice A n c) n (rowVs rs)) (hn : rs.length = n) (hok : ∀ r ∈ rs, r.ok) : RowsIn w A c rs := by
  have hrng : ∀ i, i < rs.length → (rs.getD i rw0).ok := fun i hi => hok _ (by rw [List.getD_eq_getElem?_getD, List.getElem?_eq_getElem hi]; exact List.getElem_mem hi)
  rcases h.2 with ⟨he, h0⟩ | ⟨g, cap, cur, he, _, hh, hn', _, hc, ht⟩
  · simp only [Value.slice.injEq] at he
    obtain ⟨rfl, _, rfl⟩ := he
    exact ⟨fun i hi => by omega, hrng, by omega⟩
  · simp only [Value.slice.injEq] at he
    obtain ⟨rfl, _, rfl⟩ := he
    refine ⟨fun i hi => ?_, hrng, by omega⟩
    have e : ∀ j, j < n * 3 → w.cell? ⟨g, j, none⟩ = (rowVs rs)[j]? := fun j hj => by
      rw [bl_block_cell hh, ← Array.getElem?_toList, ← ht, List.getElem?_take, if_pos hj]
    obtain ⟨h1, h2, h3⟩ := rowVs_get rs i hi
    refine ⟨g, 0, rfl, bl_block_lt hh, ?_, ?_, ?_⟩
    · rw [Nat.zero_add, e _ (by omega), h1]
    · rw [Nat.zero_add, e _ (by omega), h2]
    · rw [Nat.zero_add, e _ (by omega), h3]
end Go.Proofs.YtnggbhpnpomfjaaDoor.Bl
namespace Go.Proofs.YtnggbhpnpomfjaaDoor.Rw
open Go.RowKit Bl
def eqN (a b : Rw) : Bool := (a.col == b.col) && (a.txt.data.toList == b.txt.data.toList) && (a.ln == b.ln)
def sameN (rs qs : List Rw) : Bool := decide (rs.length = qs.length) && (List.range rs.length).all (fun i => eqN (rs.getD i rw0) (qs.getD i rw0))
theorem eqN_self (a : Rw) : eqN a a = true := by simp [eqN]
theorem sameN_self (rs : List Rw) : sameN rs rs = true := by simp [sameN, eqN_self]
theorem sameN_no {rs qs : List Rw} {k : Nat} (hk : k < rs.length) (h : eqN (rs.getD k rw0) (qs.getD k rw0) = false) : sameN rs qs = false := by
  unfold sameN
  have : (List.range rs.length).all (fun i => eqN (rs.getD i rw0) (qs.getD i rw0)) = false := by
    rw [List.all_eq_false]
    exact ⟨k, List.mem_range.2 hk, by rw [h]; simp⟩
  rw [this, Bool.and_false]
theorem sameN_yes {rs qs : List Rw} (hl : rs.length = qs.length) (h : ∀ j, j < rs.length → eqN (rs.getD j rw0) (qs.getD j rw0) = true) : sameN rs qs = true := by
  unfold sameN
  rw [decide_eq_true hl, Bool.true_and, List.all_eq_true]
  exact fun x hx => h x (List.mem_range.1 hx)
set_option maxRecDepth 100000 in
set_option maxHeartbeats 1600000 in
theorem rsame_any (A A' : Option Addr) (c c' : Nat) (rs qs : List Rw) (w : World) (g : Bl.RowsIn w A c rs) (g' : Bl.RowsIn w A' c' qs) (hl : rs.length ≤ 17592186044416) (hl' : qs.length ≤ 17592186044416) :
    Calls Tryd.prog 39 #[.slice A rs.length c, .slice A' qs.length c'] w fun e w' => e = .returned (.bool (sameN rs qs)) ∧ Below w.heap.size w w' := by
  have G := Lib.hid g
  have G' := Lib.hid g'
  clear g g'
  by_cases hle : rs.length = qs.length
  case neg =>
    have hq : ((rs.length : Int) != (qs.length : Int)) = true := by rw [bne_iff_ne]; omega
    have hq2 : ((rs.length : Int) == (qs.length : Int)) = false := by rw [beq_eq_false_iff_ne]; omega
    have HV : Hid (sameN rs qs = false) := by show _ = _; unfold sameN; rw [decide_eq_false hle]; rfl
    clear hle
    go_enter Tryd.func39, Tryd.ntmps39
    go_wp2_with fail
    go_ret
    exact ⟨by rw [HV.out]; rfl, Below.refl _ _⟩
  case pos =>
    have HLE := Lib.hid hle
    rw [← hle]
    have hq : ((rs.length : Int) != (rs.length : Int)) = false := by simp
    clear hle hl'
    go_enter Tryd.func39, Tryd.ntmps39
    go_wp2_with fail
    go_loopw [5] (fun i wr => ∃ k : Nat, k ≤ rs.length ∧ i = .int .i64 (k : Nat) ∧ Hid (∀ j, j < k → eqN (rs.getD j rw0) (qs.getD j rw0) = true) ∧ ∃ n, wr = w.drewN n) (fun i _ => rs.length - (intOf i).toNat)
    case atStart => exact ⟨0, Nat.zero_le _, rfl, (fun j h => by omega), 0, rfl⟩
    case round =>
      obtain ⟨k, hk, rfl, hno, n, rfl⟩ := hrel
      by_cases hlt : k < rs.length
      · obtain ⟨b, off, hA, hbl, hc0, hc1, hc2⟩ := G.out.at_ k hlt
        obtain ⟨b', off', hA', hbl', hd0, hd1, hd2⟩ := G'.out.at_ k (by rw [← HLE.out]; exact hlt)
        have HNO : Hid (eqN (rs.getD k rw0) (qs.getD k rw0) = false → sameN rs qs = false) := fun h => sameN_no hlt h
        have HNX : Hid (eqN (rs.getD k rw0) (qs.getD k rw0) = true → ∀ j, j < k + 1 → eqN (rs.getD j rw0) (qs.getD j rw0) = true) := fun h j hj => by
          rcases Nat.lt_or_ge j k with h1 | h1
          · exact hno.out j h1
          · have : j = k := by omega
            subst this; exact h
        subst hA hA'
        generalize rs.getD k rw0 = x at hc0 hc1 hc2 HNO HNX
        generalize qs.getD k rw0 = y at hd0 hd1 hd2 HNO HNX
        obtain ⟨xc, xt, xl⟩ := x
        obtain ⟨yc, yt, yl⟩ := y
        simp only at hc0 hc1 hc2 hd0 hd1 hd2
        obtain ⟨q1, h1⟩ : ∃ q, (xc == yc) = q := ⟨_, rfl⟩
        obtain ⟨q2, h2⟩ : ∃ q, (xt.toList == yt.toList) = q := ⟨_, rfl⟩
        obtain ⟨q3, h3⟩ : ∃ q, (xl == yl) = q := ⟨_, rfl⟩
        have HE : Hid (eqN ⟨xc, xt, xl⟩ ⟨yc, yt, yl⟩ = (q1 && q2 && q3)) := by
          show _ = _
          rw [Lib.toList_data, Lib.toList_data] at h2
          unfold eqN
          simp only [h1, h2, h3]
        have hi1 : (0 : Int) ≤ (k : Int) := by omega
        have hi2 : (k : Int) < (rs.length : Int) := by omega
        clear hno
        cases q1 <;> cases q2 <;> cases q3
        all_goals
          first
          | (have HN := Lib.hid (HNX.out HE.out)
             clear HNX HNO HE
             go_wp2_with fail
             go_quiet (fail)
             go_wp2_with fail
             go_roundw
             case rel => exact ⟨k + 1, by omega, by go_num, HN.out, _, rfl⟩
             case measure => simp [intOf]; omega)
          | (have HV := Lib.hid (HNO.out HE.out)
             clear HNX HNO HE
             go_wp2_with fail
             go_quiet (fail)
             go_wp2_with fail
             go_ret
             exact ⟨by rw [HV.out]; rfl, bl_dr (bl_dr (Below.refl _ _) _) _⟩)
      · obtain rfl : k = rs.length := by omega
        have HV : Hid (sameN rs qs = true) := sameN_yes HLE.out hno.out
        clear hno
        go_wp2_with fail
        go_ret
        exact ⟨by rw [HV.out]; rfl, bl_dr (Below.refl _ _) _⟩
set_option maxRecDepth 100000 in
set_option maxHeartbeats 1600000 in
theorem equal_any (A A' : Option Addr) (c c' : Nat) (rs qs : List Rw) (w : World) (g : Bl.RowsIn w A c rs) (g' : Bl.RowsIn w A' c' qs) (hl : rs.length ≤ 17592186044416) (hl' : qs.length ≤ 17592186044416) :
    Calls Tryd.prog 76 #[.slice A rs.length c, .slice A' qs.length c'] w fun e w' => e = .returned (.bool (sameN rs qs)) ∧ Below w.heap.size w w' := by
  have G := Lib.hid g
  have G' := Lib.hid g'
  clear g g'
  by_cases hle : rs.length = qs.length
  case neg =>
    have hq : ((rs.length : Int) != (qs.length : Int)) = true := by rw [bne_iff_ne]; omega
    have hq2 : ((rs.length : Int) == (qs.length : Int)) = false := by rw [beq_eq_false_iff_ne]; omega
    have HV : Hid (sameN rs qs = false) := by show _ = _; unfold sameN; rw [decide_eq_false hle]; rfl
    clear hle
    go_enter Tryd.func76, Tryd.ntmps76
    go_wp2_with fail
    go_ret
    exact ⟨by rw [HV.out]; rfl, Below.refl _ _⟩
  case pos =>
    have HLE := Lib.hid hle
    rw [← hle]
    have hq : ((rs.length : Int) != (rs.length : Int)) = false := by simp
    clear hle hl'
    go_enter Tryd.func76, Tryd.ntmps76
    go_wp2_with fail
    go_loopw [13] (fun i wr => ∃ k : Nat, k ≤ rs.length ∧ i = .int .i64 (k : Nat) ∧ Hid (∀ j, j < k → eqN (rs.getD j rw0) (qs.getD j rw0) = true) ∧ ∃ n, wr = w.drewN n) (fun i _ => rs.length - (intOf i).toNat)
    case atStart => exact ⟨0, Nat.zero_le _, rfl, (fun j h => by omega), 0, rfl⟩
    case round =>
      obtain ⟨k, hk, rfl, hno, n, rfl⟩ := hrel
      by_cases hlt : k < rs.length
      · obtain ⟨b, off, hA, hbl, hc0, hc1, hc2⟩ := G.out.at_ k hlt
        obtain ⟨b', off', hA', hbl', hd0, hd1, hd2⟩ := G'.out.at_ k (by rw [← HLE.out]; exact hlt)
        have HNO : Hid (eqN (rs.getD k rw0) (qs.getD k rw0) = false → sameN rs qs = false) := fun h => sameN_no hlt h
        have HNX : Hid (eqN (rs.getD k rw0) (qs.getD k rw0) = true → ∀ j, j < k + 1 → eqN (rs.getD j rw0) (qs.getD j rw0) = true) := fun h j hj => by
          rcases Nat.lt_or_ge j k with h1 | h1
          · exact hno.out j h1
          · have : j = k := by omega
            subst this; exact h
        subst hA hA'
        generalize rs.getD k rw0 = x at hc0 hc1 hc2 HNO HNX
        generalize qs.getD k rw0 = y at hd0 hd1 hd2 HNO HNX
        obtain ⟨xc, xt, xl⟩ := x
        obtain ⟨yc, yt, yl⟩ := y
        simp only at hc0 hc1 hc2 hd0 hd1 hd2
        obtain ⟨q1, h1⟩ : ∃ q, (xc == yc) = q := ⟨_, rfl⟩
        obtain ⟨q2, h2⟩ : ∃ q, (xt.toList == yt.toList) = q := ⟨_, rfl⟩
        obtain ⟨q3, h3⟩ : ∃ q, (xl == yl) = q := ⟨_, rfl⟩
        have HE : Hid (eqN ⟨xc, xt, xl⟩ ⟨yc, yt, yl⟩ = (q1 && q2 && q3)) := by
          show _ = _
          rw [Lib.toList_data, Lib.toList_data] at h2
          unfold eqN
          simp only [h1, h2, h3]
        have hi1 : (0 : Int) ≤ (k : Int) := by omega
        have hi2 : (k : Int) < (rs.length : Int) := by omega
        clear hno
        cases q1 <;> cases q2 <;> cases q3
        all_goals
          first
          | (have HN := Lib.hid (HNX.out HE.out)
             clear HNX HNO HE
             go_wp2_with fail
             go_quiet (fail)
             go_wp2_with fail
             go_roundw
             case rel => exact ⟨k + 1, by omega, by go_num, HN.out, _, rfl⟩
             case measure => simp [intOf]; omega)
          | (have HV := Lib.hid (HNO.out HE.out)
             clear HNX HNO HE
             go_wp2_with fail
             go_quiet (fail)
             go_wp2_with fail
             go_ret
             exact ⟨by rw [HV.out]; rfl, bl_dr (bl_dr (Below.refl _ _) _) _⟩)
      · obtain rfl : k = rs.length := by omega
        have HV : Hid (sameN rs qs = true) := sameN_yes HLE.out hno.out
        clear hno
        go_wp2_with fail
        go_ret
        exact ⟨by rw [HV.out]; rfl, bl_dr (Below.refl _ _) _⟩
theorem same_any (A A' : Option Addr) (c c' : Nat) (rs qs : List Rw) (w : World) (g : Bl.RowsIn w A c rs) (g' : Bl.RowsIn w A' c' qs) (hl : rs.length ≤ 17592186044416) (hl' : qs.length ≤ 17592186044416) :
    Calls Tryd.prog 42 #[.slice A rs.length c, .slice A' qs.length c'] w fun e w' => e = .returned (.bool (sameN rs qs)) ∧ Below w.heap.size w w' := by
  have E := Lib.hid (fun W (hW : Below w.heap.size w W) => equal_any A A' c c' rs qs W (g.below hW) (g'.below hW) hl hl')
  clear g g' hl hl'
  go_enter Tryd.func42, Tryd.ntmps42
  go_wp2_with fail
  refine (E.out _ (Below.refl _ _)).mono ?_
  rintro e w1 ⟨rfl, hb1⟩
  go_wp2_with fail
  go_ret
  exact ⟨rfl, hb1⟩
end Go.Proofs.YtnggbhpnpomfjaaDoor.Rw
