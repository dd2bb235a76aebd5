/- Walks: how many rows lie deeper: the program's and the document's; are rows too wide. Conditions: no more than 2^44 rows. -/
import Derived.Test.YtnggbhpnpomfjaaDoorRwRRow
import Derived.Test.YtnggbhpnpomfjaaDoorRwSame
set_option linter.unusedVariables false
namespace Go.Proofs.YtnggbhpnpomfjaaDoor.Rw
open Go.RowKit Bl
theorem block_lt_of_cell' {w : World} {p : Addr} {v : Value} (h : w.cell? p = some v) : p.block < w.heap.size := by
  rcases Nat.lt_or_ge p.block w.heap.size with h' | h'
  · exact h'
  · exfalso
    unfold World.cell? at h
    rw [Array.getElem?_eq_none h'] at h
    simp at h
def emN (r : Rw) : Bool := emptyB r.txt.data.toList
def stopN (col : Int) (r : Rw) : Bool := !emN r && decide (r.col ≤ col)
def cntN (rs : List Rw) (col : Int) : Nat := rs.findIdx (stopN col)
theorem cntN_le (rs : List Rw) (col : Int) : cntN rs col ≤ rs.length := List.findIdx_le_length
theorem cntN_stop {rs : List Rw} {col : Int} {k : Nat} (hk : k < rs.length) (h : stopN col (rs.getD k rw0) = true) (hb : ∀ j, j < k → stopN col (rs.getD j rw0) = false) : cntN rs col = k := by
  unfold cntN
  rw [List.findIdx_eq hk]
  have e : ∀ j (hj : j < rs.length), rs.getD j rw0 = rs[j] := fun j hj => by simp [List.getD_eq_getElem?_getD, hj]
  exact ⟨by rw [← e k hk]; exact h, fun j hj => by rw [← e j (by omega)]; exact hb j hj⟩
theorem cntN_end {rs : List Rw} {col : Int} (hb : ∀ j, j < rs.length → stopN col (rs.getD j rw0) = false) : cntN rs col = rs.length := by
  unfold cntN
  rw [List.findIdx_eq_length]
  intro x hx
  obtain ⟨j, hj, rfl⟩ := List.getElem_of_mem hx
  have := hb j hj
  rwa [show rs.getD j rw0 = rs[j] by simp [List.getD_eq_getElem?_getD, hj]] at this
theorem cntN_before {rs : List Rw} {col : Int} {j : Nat} (h : j < cntN rs col) : stopN col (rs.getD j rw0) = false := by
  have h2 : j < rs.findIdx (stopN col) := h
  have h3 := List.not_of_lt_findIdx h2
  have hj : j < rs.length := Nat.lt_of_lt_of_le h (cntN_le rs col)
  rw [show rs.getD j rw0 = rs[j] by simp [List.getD_eq_getElem?_getD, hj]]
  simpa using h3
theorem cntN_at {rs : List Rw} {col : Int} (h : cntN rs col < rs.length) : stopN col (rs.getD (cntN rs col) rw0) = true := by
  have := List.findIdx_getElem (w := h)
  rw [show rs.getD (cntN rs col) rw0 = rs[cntN rs col] by simp [List.getD_eq_getElem?_getD, h]]
  exact this
/-- without the empty ones at the end -/
def backN (rs : List Rw) : Nat → Nat
  | 0 => 0
  | k + 1 => if emN (rs.getD k rw0) = true then backN rs k else k + 1
theorem backN_le (rs : List Rw) : ∀ k, backN rs k ≤ k
  | 0 => Nat.le_refl _
  | k + 1 => by
    have := backN_le rs k
    simp only [backN]
    split <;> omega
theorem backN_em (rs : List Rw) : ∀ n k, backN rs n ≤ k → k < n → emN (rs.getD k rw0) = true
  | 0, k, _, h => by omega
  | n + 1, k, h1, h2 => by
    simp only [backN] at h1
    split at h1
    · by_cases e : k = n
      · subst e; assumption
      · exact backN_em rs n k h1 (by omega)
    · omega
theorem backN_full (rs : List Rw) : ∀ n, 0 < backN rs n → emN (rs.getD (backN rs n - 1) rw0) = false
  | 0, h => absurd h (Nat.lt_irrefl 0)
  | n + 1, h => by
    simp only [backN] at h ⊢
    cases he : emN (rs.getD n rw0) with
    | true => rw [if_pos rfl]; rw [he, if_pos rfl] at h; exact backN_full rs n h
    | false => rw [if_neg (by simp)]; exact he
def belowN (rs : List Rw) (col : Int) : Nat := backN rs (cntN rs col)
theorem belowN_le (rs : List Rw) (col : Int) : belowN rs col ≤ cntN rs col ∧ belowN rs col ≤ rs.length := ⟨backN_le _ _, Nat.le_trans (backN_le _ _) (cntN_le _ _)⟩
set_option maxRecDepth 100000 in
set_option maxHeartbeats 1600000 in
theorem rbelow_any (A : Option Addr) (c : Nat) (rs : List Rw) (col : Int) (w : World) (g : Bl.RowsIn w A c rs) (hl : rs.length ≤ 17592186044416) :
    Calls Tryd.prog 48 #[.slice A rs.length c, .int .i64 col] w fun e w' => e = .returned (.int .i64 (belowN rs col : Nat)) ∧ Below w.heap.size w w' := by
  have G := Lib.hid g
  have H0 : Hid (backN rs 0 = 0) := rfl
  clear g
  go_enter Tryd.func48, Tryd.ntmps48
  go_wp2_with fail
  go_loopw [5, 6] (fun u v wr => ∃ k n : Nat, k ≤ rs.length ∧ u = .int .i64 (n : Nat) ∧ v = .int .i64 (k : Nat) ∧ Hid (n = backN rs k) ∧ Hid (∀ j, j < k → stopN col (rs.getD j rw0) = false) ∧ Hid (Below w.heap.size w wr)) (fun _ v _ => rs.length - (intOf v).toNat)
  case atStart => exact ⟨0, 0, Nat.zero_le _, rfl, rfl, rfl, (fun j h => by omega), Below.refl _ _⟩
  case round =>
    obtain ⟨k, n, hk, rfl, rfl, hn, hno, hb⟩ := hrel
    by_cases hlt : k < rs.length
    · have hlt' : (k : Int) < (rs.length : Int) := by omega
      obtain ⟨b, off, hA, hbl, c0, c1, c2⟩ := (G.out.below hb.out).at_ k hlt
      have EM := Lib.hid (fun W => rempty_any (rs.getD k rw0) W)
      have HNX : Hid (stopN col (rs.getD k rw0) = false → ∀ j, j < k + 1 → stopN col (rs.getD j rw0) = false) := fun h j hj => by
        rcases Nat.lt_or_ge j k with h1 | h1
        · exact hno.out j h1
        · have : j = k := by omega
          subst this; exact h
      have HBN : Hid (backN rs (k + 1) = if emN (rs.getD k rw0) = true then backN rs k else k + 1) := rfl
      have HST : Hid (stopN col (rs.getD k rw0) = true → cntN rs col = k) := fun h => cntN_stop hlt h hno.out
      generalize rs.getD k rw0 = r at c0 c1 c2 EM HNX HBN HST
      obtain ⟨rc, rt, rl⟩ := r
      simp only at c0 c1 c2 EM
      have HBB : Hid (∀ W : World, Below wr.heap.size wr W → W.cell? ⟨b, off + k * 3, none⟩ = some (.int .i64 rc) ∧ W.cell? ⟨b, off + k * 3 + 1, none⟩ = some (.string rt) ∧ W.cell? ⟨b, off + k * 3 + 2, none⟩ = some (.int .i64 rl)) := fun W hW =>
        ⟨(hW.cell (p := ⟨b, off + k * 3, none⟩) hbl).trans c0, (hW.cell (p := ⟨b, off + k * 3 + 1, none⟩) hbl).trans c1, (hW.cell (p := ⟨b, off + k * 3 + 2, none⟩) hbl).trans c2⟩
      have hws := hb.out.size
      subst hA
      cases hem : emptyB rt.data.toList with
      | true =>
        rw [hem] at EM
        have HS : Hid (stopN col ⟨rc, rt, rl⟩ = false) := by show _ = _; unfold stopN emN; simp only; rw [hem]; rfl
        have HB2 : Hid (backN rs (k + 1) = backN rs k) := by show _ = _; rw [HBN.out]; unfold emN; simp only; rw [if_pos hem]
        have HN2 := Lib.hid (HNX.out HS.out)
        clear hem hno HNX HST HBN
        go_wp2_with fail
        refine (EM.out _).mono ?_
        rintro e w2 ⟨rfl, hb2⟩
        obtain ⟨d0, d1, d2⟩ := HBB.out w2 hb2
        have HX2 := Lib.hid hb2
        clear hb2
        go_wp2_with fail
        refine (EM.out _).mono ?_
        rintro e w3 ⟨rfl, hb3⟩
        have HB3 := Lib.hid (hb.out.trans ((HX2.out.trans (hb3.mono HX2.out.size)).mono hws))
        clear hb3
        go_wp2_with fail
        go_roundw
        case rel => exact ⟨k + 1, n, by omega, rfl, by go_num, by rw [HB2.out]; exact hn.out, HN2.out, HB3.out⟩
        case measure => simp [intOf]; omega
      | false =>
        rw [hem] at EM
        by_cases hcc : rc ≤ col
        · have hcd : decide (col < rc) = false := decide_eq_false (by omega)
          have HS : Hid (cntN rs col = k) := HST.out (by unfold stopN emN; simp only; rw [hem, decide_eq_true hcc]; rfl)
          have HV : Hid (belowN rs col = n) := by show _ = _; unfold belowN; rw [HS.out]; exact hn.out.symm
          clear hem hno HNX HST HBN
          go_wp2_with fail
          refine (EM.out _).mono ?_
          rintro e w2 ⟨rfl, hb2⟩
          obtain ⟨d0, d1, d2⟩ := HBB.out w2 hb2
          have HB2 := Lib.hid (hb.out.trans (hb2.mono hws))
          clear hb2
          go_wp2_with fail
          go_ret
          exact ⟨by rw [HV.out]; rfl, HB2.out⟩
        · have hcd : decide (col < rc) = true := decide_eq_true (by omega)
          have hci : col < rc := by omega
          have HS : Hid (stopN col ⟨rc, rt, rl⟩ = false) := by show _ = _; unfold stopN emN; simp only; rw [decide_eq_false hcc, Bool.and_false]
          have HB2 : Hid (backN rs (k + 1) = k + 1) := by show _ = _; rw [HBN.out]; unfold emN; simp only; rw [if_neg (by rw [hem]; simp)]
          have HN2 := Lib.hid (HNX.out HS.out)
          clear hem hno HNX HST HBN
          go_wp2_with fail
          refine (EM.out _).mono ?_
          rintro e w2 ⟨rfl, hb2⟩
          obtain ⟨d0, d1, d2⟩ := HBB.out w2 hb2
          have HX2 := Lib.hid hb2
          clear hb2
          go_wp2_with fail
          refine (EM.out _).mono ?_
          rintro e w3 ⟨rfl, hb3⟩
          have HB3 := Lib.hid (hb.out.trans ((HX2.out.trans (hb3.mono HX2.out.size)).mono hws))
          clear hb3
          go_wp2_with fail
          go_roundw
          case rel => exact ⟨k + 1, k + 1, by omega, by go_num, by go_num, HB2.out.symm, HN2.out, HB3.out⟩
          case measure => simp [intOf]; omega
    · obtain rfl : k = rs.length := by omega
      have HV : Hid (belowN rs col = n) := by show _ = _; unfold belowN; rw [cntN_end hno.out]; exact hn.out.symm
      clear hno
      go_wp2_with fail
      go_ret
      exact ⟨by rw [HV.out]; rfl, hb.out⟩
set_option maxRecDepth 100000 in
/-- the test of the row behind those that lie deeper -/
theorem stop_any (r : Rw) (col : Int) (cb : Nat) (w : World) (hc : w.cell? ⟨cb, 0, none⟩ = some (.int .i64 col)) :
    Calls Tryd.prog 78 #[.agg #[.int .i64 r.col, .string r.txt, .int .i64 r.ln], .pointer (some ⟨cb, 0, none⟩)] w fun e w' => e = .returned (.bool (stopN col r)) ∧ Below w.heap.size w w' := by
  have hcl := block_lt_of_cell' hc
  have HK0 := Lib.hid (Kept.first w 53 #[.int .i64 r.col, .string r.txt, .int .i64 r.ln])
  have EM := Lib.hid (fun W => isempty_any r W)
  obtain ⟨rc, rt, rl⟩ := r
  simp only at HK0 EM ⊢
  have p0 := HK0.out.cell 0
  have p1 := HK0.out.cell 1
  have p2 := HK0.out.cell 2
  have HC : Hid (∀ W, Below w.heap.size w W → W.cell? ⟨cb, 0, none⟩ = some (.int .i64 col)) := fun W hW => (hW.cell (p := ⟨cb, 0, none⟩) hcl).trans hc
  clear hc
  have HE : Hid (stopN col ⟨rc, rt, rl⟩ = (!(emptyB rt.data.toList) && decide (rc ≤ col))) := rfl
  generalize emptyB rt.data.toList = q at EM HE
  cases q with
  | true =>
    have HV : Hid (stopN col ⟨rc, rt, rl⟩ = false) := HE.out
    clear HE
    go_enter Tryd.func78, Tryd.ntmps78
    go_wp2_with fail
    refine (EM.out _).mono ?_
    rintro e w2 ⟨rfl, hb2⟩
    have HK2 := Lib.hid (HK0.out.below hb2)
    clear hb2
    go_wp2_with fail
    go_ret
    exact ⟨by rw [HV.out]; rfl, HK2.out.2⟩
  | false =>
    have HV : Hid (stopN col ⟨rc, rt, rl⟩ = decide (rc ≤ col)) := HE.out
    clear HE
    go_enter Tryd.func78, Tryd.ntmps78
    go_wp2_with fail
    refine (EM.out _).mono ?_
    rintro e w2 ⟨rfl, hb2⟩
    have HK2 := Lib.hid (HK0.out.below hb2)
    have r0 := HK2.out.cell 0
    have cc := HC.out _ HK2.out.2
    clear hb2 p0 p1 p2
    go_wp2_with fail
    go_ret
    exact ⟨by rw [HV.out]; rfl, HK2.out.2⟩
def indexN (rs : List Rw) (col : Int) : Int := if cntN rs col < rs.length then (cntN rs col : Nat) else -1
set_option maxRecDepth 100000 in
set_option maxHeartbeats 1600000 in
theorem index_rows (A : Option Addr) (c : Nat) (rs : List Rw) (col : Int) (cb : Nat) (w : World) (g : Bl.RowsIn w A c rs) (hl : rs.length ≤ 17592186044416) (hc : w.cell? ⟨cb, 0, none⟩ = some (.int .i64 col)) :
    Calls Tryd.prog 77 #[.slice A rs.length c, .func (.func 78) #[] #[.pointer (some ⟨cb, 0, none⟩)]] w fun e w' => e = .returned (.int .i64 (indexN rs col)) ∧ Below w.heap.size w w' := by
  have hcl := block_lt_of_cell' hc
  have G := Lib.hid g
  have HC : Hid (∀ W, Below w.heap.size w W → W.cell? ⟨cb, 0, none⟩ = some (.int .i64 col)) := fun W hW => (hW.cell (p := ⟨cb, 0, none⟩) hcl).trans hc
  clear g hc hcl
  go_enter Tryd.func77, Tryd.ntmps77
  go_wp2_with fail
  go_loopw [8] (fun v wr => ∃ k : Nat, k ≤ rs.length ∧ v = .int .i64 (k : Nat) ∧ Hid (∀ j, j < k → stopN col (rs.getD j rw0) = false) ∧ Hid (Below w.heap.size w wr)) (fun v _ => rs.length - (intOf v).toNat)
  case atStart => exact ⟨0, Nat.zero_le _, rfl, (fun j h => by omega), Below.refl _ _⟩
  case round =>
    obtain ⟨k, hk, rfl, hno, hb⟩ := hrel
    by_cases hlt : k < rs.length
    · have hlt' : (k : Int) < (rs.length : Int) := by omega
      obtain ⟨b, off, hA, hbl, c0, c1, c2⟩ := (G.out.below hb.out).at_ k hlt
      have ST := Lib.hid (stop_any (rs.getD k rw0) col cb wr (HC.out _ hb.out))
      have HNX : Hid (stopN col (rs.getD k rw0) = false → ∀ j, j < k + 1 → stopN col (rs.getD j rw0) = false) := fun h j hj => by
        rcases Nat.lt_or_ge j k with h1 | h1
        · exact hno.out j h1
        · have : j = k := by omega
          subst this; exact h
      have HST : Hid (stopN col (rs.getD k rw0) = true → indexN rs col = (k : Nat)) := fun h => by
        have e := cntN_stop hlt h hno.out
        unfold indexN
        rw [e, if_pos hlt]
      generalize rs.getD k rw0 = r at c0 c1 c2 ST HNX HST
      obtain ⟨rc, rt, rl⟩ := r
      simp only at c0 c1 c2 ST
      have hws := hb.out.size
      subst hA
      cases hst : stopN col ⟨rc, rt, rl⟩ with
      | true =>
        rw [hst] at ST
        have HV := Lib.hid (HST.out hst)
        clear hst hno HNX HST
        go_wp2_with fail
        refine ST.out.mono ?_
        rintro e w2 ⟨rfl, hb2⟩
        have HB2 := Lib.hid (hb.out.trans (hb2.mono hws))
        clear hb2
        go_wp2_with fail
        go_ret
        exact ⟨by rw [HV.out]; rfl, HB2.out⟩
      | false =>
        rw [hst] at ST
        have HN2 := Lib.hid (HNX.out hst)
        clear hst hno HNX HST
        go_wp2_with fail
        refine ST.out.mono ?_
        rintro e w2 ⟨rfl, hb2⟩
        have HB2 := Lib.hid (hb.out.trans (hb2.mono hws))
        clear hb2
        go_wp2_with fail
        go_roundw
        case rel => exact ⟨k + 1, by omega, by go_num, HN2.out, HB2.out⟩
        case measure => simp [intOf]; omega
    · obtain rfl : k = rs.length := by omega
      have HV : Hid (indexN rs col = -1) := by show _ = _; unfold indexN; rw [cntN_end hno.out, if_neg (Nat.lt_irrefl _)]
      clear hno
      go_wp2_with fail
      go_ret
      exact ⟨by rw [HV.out]; rfl, hb.out⟩
set_option maxRecDepth 100000 in
set_option maxHeartbeats 1600000 in
theorem below_any (A : Option Addr) (c : Nat) (rs : List Rw) (col : Int) (w : World) (g : Bl.RowsIn w A c rs) (hl : rs.length ≤ 17592186044416) :
    Calls Tryd.prog 43 #[.slice A rs.length c, .int .i64 col] w fun e w' => e = .returned (.int .i64 (belowN rs col : Nat)) ∧ Below w.heap.size w w' := by
  have G := Lib.hid g
  have HK0 := Lib.hid (Kept.first w 3 #[.int .i64 col])
  have IX := Lib.hid (index_rows A c rs col w.heap.size _ (g.below HK0.out.2) hl (HK0.out.cell 0))
  have hcle := cntN_le rs col
  have HV0 : Hid (backN rs (cntN rs col) = belowN rs col) := rfl
  have HIX : Hid (indexN rs col = if cntN rs col < rs.length then ((cntN rs col : Nat) : Int) else -1) := rfl
  generalize indexN rs col = ii at IX HIX
  generalize cntN rs col = n0 at hcle HV0 HIX
  clear g
  have hsp : (n0 < rs.length ∧ ii = (n0 : Nat)) ∨ (n0 = rs.length ∧ ii = -1) := by
    have := HIX.out
    by_cases h : n0 < rs.length
    · rw [if_pos h] at this; exact Or.inl ⟨h, this⟩
    · rw [if_neg h] at this; exact Or.inr ⟨by omega, this⟩
  clear HIX
  rcases hsp with ⟨h1, rfl⟩ | ⟨rfl, rfl⟩
  all_goals
    go_enter Tryd.func43, Tryd.ntmps43
    go_wp2_with fail
    refine IX.out.mono ?_
    rintro e w1 ⟨rfl, hb1⟩
    have HK1 := Lib.hid (HK0.out.below hb1)
    clear hb1
    go_wp2_with fail
    go_loopw [5] (fun u wr => ∃ n : Nat, u = .int .i64 (n : Nat) ∧ Hid (n ≤ rs.length) ∧ Hid (backN rs n = belowN rs col) ∧ Hid (Below w.heap.size w wr)) (fun u _ => (intOf u).toNat)
    case atStart => exact ⟨_, rfl, hcle, HV0.out, HK1.out.2⟩
    case round =>
      obtain ⟨n, rfl, hn, hbk, hb⟩ := hrel
      have hnl := hn.out
      by_cases hn0 : n = 0
      · obtain rfl : n = 0 := hn0
        have HV : Hid (((0 : Nat) : Int) = (belowN rs col : Nat)) := by show _ = _; rw [← hbk.out]; rfl
        clear hbk
        go_wp2_with fail
        go_ret
        exact ⟨by rw [← HV.out]; rfl, hb.out⟩
      · obtain ⟨m, rfl⟩ : ∃ m, n = m + 1 := ⟨n - 1, by omega⟩
        have hms : m < rs.length := by omega
        obtain ⟨b, off, hA, hbl, c0, c1, c2⟩ := (G.out.below hb.out).at_ m hms
        have EM := Lib.hid (fun W => isempty_any (rs.getD m rw0) W)
        have HBN : Hid (backN rs (m + 1) = if emN (rs.getD m rw0) = true then backN rs m else m + 1) := rfl
        generalize rs.getD m rw0 = r at c0 c1 c2 EM HBN
        obtain ⟨rc, rt, rl⟩ := r
        simp only at c0 c1 c2 EM
        obtain ⟨k, hk⟩ : ∃ k, m + 1 = k := ⟨_, rfl⟩
        have hkm : (m : Int) = (k : Int) - 1 := by omega
        have hidx : ((k : Int) - 1).toNat = m := by omega
        have hlt0 : (0 : Int) ≤ (k : Int) - 1 := by omega
        have hlt1 : (k : Int) - 1 < (rs.length : Int) := by omega
        rw [hk] at hbk HBN hnl ⊢
        have HK := Lib.hid hk
        have hk0 : (0 : Int) < (k : Int) := by omega
        have hkd : decide (0 < k) = true := decide_eq_true (by omega)
        have hkw : IntKind.i64.wrap ((k : Int) - 1) = (k : Int) - 1 := by rw [IntKind.wrap_i64]; omega
        have hws := hb.out.size
        subst hA
        clear hn hk hn0
        cases hem : emptyB rt.data.toList with
        | true =>
          rw [hem] at EM
          have HB2 : Hid (backN rs m = belowN rs col) := by show _ = _; rw [← hbk.out, HBN.out]; unfold emN; simp only; rw [if_pos hem]
          clear hem
          go_wp2_with fail
          refine (EM.out _).mono ?_
          rintro e w2 ⟨rfl, hb2⟩
          have HB3 := Lib.hid (hb.out.trans (hb2.mono hws))
          clear hb2
          go_wp2_with fail
          go_roundw
          case rel => exact ⟨m, by rw [hkm], by show _ ≤ _; omega, HB2.out, HB3.out⟩
          case measure => simp [intOf]; omega
        | false =>
          rw [hem] at EM
          have HV : Hid ((belowN rs col : Nat) = k) := by show _ = _; rw [← hbk.out, HBN.out]; unfold emN; simp only; rw [if_neg (by rw [hem]; simp)]
          clear hem
          go_wp2_with fail
          refine (EM.out _).mono ?_
          rintro e w2 ⟨rfl, hb2⟩
          have HB3 := Lib.hid (hb.out.trans (hb2.mono hws))
          clear hb2
          go_wp2_with fail
          go_ret
          exact ⟨by rw [HV.out]; rfl, HB3.out⟩
set_option maxRecDepth 100000 in
set_option maxHeartbeats 1600000 in
theorem wide_rows (A : Option Addr) (c : Nat) (rs : List Rw) (w : World) (g : Bl.RowsIn w A c rs) (hl : rs.length ≤ 17592186044416) :
    Calls Tryd.prog 46 #[.slice A rs.length c] w fun e w' => ∃ b, e = .returned (.bool b) ∧ Below w.heap.size w w' ∧ (b = false → rs.length ≤ 1000 ∧ ∀ j, j < rs.length → (rs.getD j rw0).col ≤ 2000) := by
  have G := Lib.hid g
  clear g
  go_enter Tryd.func46, Tryd.ntmps46
  go_wp2_with fail
  go_loopw [7] (fun v wr => ∃ k : Nat, k ≤ rs.length ∧ v = .int .i64 (k : Nat) ∧ Hid (∀ j, j < k → (rs.getD j rw0).col ≤ 2000) ∧ Hid (Below w.heap.size w wr)) (fun v _ => rs.length - (intOf v).toNat)
  case atStart => exact ⟨0, Nat.zero_le _, rfl, (fun j h => by omega), Below.refl _ _⟩
  case round =>
    obtain ⟨k, hk, rfl, hno, hb⟩ := hrel
    by_cases hlt : k < rs.length
    · have hlt' : (k : Int) < (rs.length : Int) := by omega
      obtain ⟨b, off, hA, hbl, c0, c1, c2⟩ := (G.out.below hb.out).at_ k hlt
      have HNX : Hid ((rs.getD k rw0).col ≤ 2000 → ∀ j, j < k + 1 → (rs.getD j rw0).col ≤ 2000) := fun h j hj => by
        rcases Nat.lt_or_ge j k with h1 | h1
        · exact hno.out j h1
        · have : j = k := by omega
          subst this; exact h
      generalize rs.getD k rw0 = r at c0 c1 c2 HNX
      obtain ⟨rc, rt, rl⟩ := r
      simp only at c0 c1 c2 HNX
      have hws := hb.out.size
      have HX0 := Lib.hid (Kept.first wr 53 #[.int .i64 0, .string ⟨#[]⟩, .int .i64 0])
      have HX1 := Lib.hid (HX0.out.set #[.int .i64 rc, .string rt, .int .i64 rl])
      have HB3 := Lib.hid (hb.out.trans (HX1.out.2.mono hws))
      have p0 := HX1.out.cell 0
      subst hA
      by_cases hcc : 2000 < rc
      · clear HNX hno
        go_wp2_with (refine wpList_store_row rfl 53 _ _ rfl wr.heap.size #[.int .i64 rc, .string rt, .int .i64 rl] rfl rfl 53 _ HX0.out.1 (by kernel_rfl) rfl (row_one _ _ _) ?_)
        go_ret
        exact ⟨true, rfl, HB3.out, fun h => by cases h⟩
      · have HN2 := Lib.hid (HNX.out (by omega))
        clear HNX hno
        go_wp2_with (refine wpList_store_row rfl 53 _ _ rfl wr.heap.size #[.int .i64 rc, .string rt, .int .i64 rl] rfl rfl 53 _ HX0.out.1 (by kernel_rfl) rfl (row_one _ _ _) ?_)
        go_roundw
        case rel => exact ⟨k + 1, by omega, by go_num, HN2.out, HB3.out⟩
        case measure => simp [intOf]; omega
    · obtain rfl : k = rs.length := by omega
      go_wp2_with fail
      go_ret
      refine ⟨decide ((1000 : Int) < (rs.length : Int)), rfl, hb.out, fun h => ⟨?_, hno.out⟩⟩
      have := of_decide_eq_false h
      omega
end Go.Proofs.YtnggbhpnpomfjaaDoor.Rw
