/- Rows that lie in memory; what a block's text is, in plain Lean; the test of the row behind a block, and where it stands. Conditions: none beyond the model's bounds. -/
import Derived.Test.YtnggbhpnpomfjaaDoorBlOFold
import Derived.Lib.Join
import Derived.Lib.Repeat
set_option linter.unusedVariables false
namespace Go.Proofs.YtnggbhpnpomfjaaDoor.Bl
open Go.RowKit
structure Rw where
  col : Int
  txt : ByteArray
  ln : Int
def rw0 : Rw := ⟨0, ByteArray.empty, 0⟩
def Rw.em (r : Rw) : Bool := r.txt.data.toList.isEmpty
def Rw.at_ (r : Rw) : Int := max r.col 0
def Rw.ok (r : Rw) : Prop := -9223372036854775808 ≤ r.col ∧ r.col ≤ 9223372036854775807 ∧ -9223372036854775808 ≤ r.ln ∧ r.ln ≤ 9223372036854775807
theorem Rw.em_true {r : Rw} (h : r.em = true) : r.txt.data.toList = [] := by simpa [Rw.em] using h
theorem Rw.em_false {r : Rw} (h : r.em = false) : r.txt.data.toList ≠ [] := by
  intro e; simp [Rw.em, e] at h
theorem Rw.at_pos (r : Rw) : 0 ≤ r.at_ := Int.le_max_right _ _
/-- rows that lie one behind the other -/
structure RowsIn (w : World) (A : Option Addr) (c : Nat) (rs : List Rw) : Prop where
  at_ : ∀ i, i < rs.length → ∃ b off, A = some ⟨b, off, none⟩ ∧ b < w.heap.size ∧ w.cell? ⟨b, off + i * 3, none⟩ = some (.int .i64 (rs.getD i rw0).col) ∧ w.cell? ⟨b, off + i * 3 + 1, none⟩ = some (.string (rs.getD i rw0).txt) ∧ w.cell? ⟨b, off + i * 3 + 2, none⟩ = some (.int .i64 (rs.getD i rw0).ln)
  rng : ∀ i, i < rs.length → (rs.getD i rw0).ok
  cap : rs.length ≤ c
theorem RowsIn.below {w w' : World} {A : Option Addr} {c : Nat} {rs : List Rw} (g : RowsIn w A c rs) (hb : Below w.heap.size w w') : RowsIn w' A c rs :=
  ⟨fun i hi => by
    obtain ⟨b, off, h1, h2, h3, h4, h5⟩ := g.at_ i hi
    exact ⟨b, off, h1, Nat.lt_of_lt_of_le h2 hb.size, (hb.cell (p := ⟨b, off + i * 3, none⟩) h2).trans h3, (hb.cell (p := ⟨b, off + i * 3 + 1, none⟩) h2).trans h4, (hb.cell (p := ⟨b, off + i * 3 + 2, none⟩) h2).trans h5⟩, g.rng, g.cap⟩
/-- the row behind a block -/
def Rw.lies (col : Int) (r : Rw) : Bool := !r.em && decide (r.at_ ≤ col)
def cntT (rs : List Rw) (col : Int) : Nat := rs.findIdx (Rw.lies col)
theorem cntT_le (rs : List Rw) (col : Int) : cntT rs col ≤ rs.length := List.findIdx_le_length
theorem cnt_stop {rs : List Rw} {col : Int} {k : Nat} (hk : k < rs.length) (h : (rs.getD k rw0).lies col = true) (hb : ∀ j, j < k → (rs.getD j rw0).lies col = false) : cntT rs col = k := by
  unfold cntT
  rw [List.findIdx_eq hk]
  have e : ∀ j (hj : j < rs.length), rs.getD j rw0 = rs[j] := fun j hj => by simp [List.getD_eq_getElem?_getD, hj]
  exact ⟨by rw [← e k hk]; exact h, fun j hj => by rw [← e j (by omega)]; exact hb j hj⟩
theorem cnt_end {rs : List Rw} {col : Int} (hb : ∀ j, j < rs.length → (rs.getD j rw0).lies col = false) : cntT rs col = rs.length := by
  unfold cntT
  rw [List.findIdx_eq_length]
  intro x hx
  obtain ⟨j, hj, rfl⟩ := List.getElem_of_mem hx
  have := hb j hj
  rwa [show rs.getD j rw0 = rs[j] by simp [List.getD_eq_getElem?_getD, hj]] at this
/-- the first column of a block's rows, ahead of a row -/
def baseT (rs : List Rw) : Nat → Int
  | 0 => -1
  | k + 1 => if (rs.getD k rw0).em = true then baseT rs k else if baseT rs k < 0 then (rs.getD k rw0).at_ else baseT rs k
def endT (rs : List Rw) : Nat → Nat
  | 0 => 0
  | k + 1 => if (rs.getD k rw0).em = true then endT rs k else k + 1
def badT (rs : List Rw) (k : Nat) : Bool := !(rs.getD k rw0).em && (decide ((rs.getD k rw0).at_ < baseT rs (k + 1)) || decide (65536 < (rs.getD k rw0).at_ - baseT rs (k + 1)))
def lineT (rs : List Rw) (k : Nat) : List UInt8 := if (rs.getD k rw0).em = true then [] else List.replicate ((rs.getD k rw0).at_ - baseT rs (k + 1)).toNat 32 ++ (rs.getD k rw0).txt.data.toList
theorem endT_le (rs : List Rw) : ∀ k, endT rs k ≤ k
  | 0 => Nat.le_refl _
  | k + 1 => by
    have := endT_le rs k
    simp only [endT]
    split <;> omega
theorem baseT_ge (rs : List Rw) : ∀ k, -1 ≤ baseT rs k
  | 0 => Int.le_refl _
  | k + 1 => by
    have := baseT_ge rs k
    have := (rs.getD k rw0).at_pos
    simp only [baseT]
    split
    · assumption
    · split <;> omega
/-- behind the end all lines are empty -/
theorem endT_em (rs : List Rw) : ∀ n k, endT rs n ≤ k → k < n → (rs.getD k rw0).em = true
  | 0, k, _, h => by omega
  | n + 1, k, h1, h2 => by
    simp only [endT] at h1
    split at h1
    · by_cases e : k = n
      · subst e; assumption
      · exact endT_em rs n k h1 (by omega)
    · omega
def linesT (rs : List Rw) (n : Nat) : List (List UInt8) := (List.range n).map (lineT rs)
def joinT (L : List (List UInt8)) : List UInt8 := Lib.join L [10]
def textT (rs : List Rw) (n : Nat) (folded : Bool) (chomp : Int) : List UInt8 :=
  (if folded = true then foldL (linesT rs (endT rs n)) else joinT (linesT rs (endT rs n))) ++ (if chomp ≠ 1 ∧ 0 < endT rs n then [10] else []) ++ (if chomp = 2 then List.replicate (n - endT rs n) 10 else [])
def badAt (rs : List Rw) (n : Nat) : Option Nat := (List.range n).find? (badT rs)
theorem badAt_some {rs : List Rw} {n k : Nat} (hk : k < n) (h : badT rs k = true) (hb : ∀ j, j < k → badT rs j = false) : badAt rs n = some k := by
  unfold badAt
  rw [List.find?_range_eq_some]
  exact ⟨h, List.mem_range.2 hk, fun j hj => by rw [hb j hj]; rfl⟩
theorem badAt_none {rs : List Rw} {n : Nat} (hb : ∀ j, j < n → badT rs j = false) : badAt rs n = none := by
  unfold badAt
  rw [List.find?_range_eq_none]
  exact fun j hj => by rw [hb j hj]; rfl
/-- what 'Take' answers -/
def takeV (rs : List Rw) (col : Int) (folded : Bool) (chomp : Int) : Value :=
  match badAt rs (cntT rs col) with
  | some k => .tuple #[.string ⟨#[]⟩, .int .i64 0, .agg #[.int .i64 9, .int .i64 (rs.getD k rw0).ln]]
  | none => .tuple #[.string ⟨(textT rs (cntT rs col) folded chomp).toArray⟩, .int .i64 (cntT rs col : Nat), .agg #[.int .i64 0, .int .i64 0]]
def bulkT (rs : List Rw) : Nat := (rs.map fun r => r.txt.size).sum
theorem bulkT_at (rs : List Rw) (k : Nat) (h : k < rs.length) : bulkT (rs.take (k + 1)) = bulkT (rs.take k) + (rs.getD k rw0).txt.size := by
  have e : rs.getD k rw0 = rs[k] := by simp [List.getD_eq_getElem?_getD, h]
  unfold bulkT
  rw [List.take_succ_eq_append_getElem h, List.map_append, List.sum_append, e]
  simp only [List.map_cons, List.map_nil, List.sum_cons, List.sum_nil, Nat.add_zero]
theorem bulkT_le (rs : List Rw) (k : Nat) : bulkT (rs.take k) ≤ bulkT rs := by
  unfold bulkT
  conv => rhs; rw [← List.take_append_drop k rs]
  rw [List.map_append, List.sum_append]
  omega
theorem bulkT_one (rs : List Rw) (k : Nat) (h : k < rs.length) : (rs.getD k rw0).txt.size ≤ bulkT rs := by
  have h1 := bulkT_at rs k h
  have h2 := bulkT_le rs (k + 1)
  omega
theorem lineT_le (rs : List Rw) (k : Nat) (hb : badT rs k = false) : (lineT rs k).length ≤ 65536 + (rs.getD k rw0).txt.size := by
  unfold lineT badT at *
  cases he : (rs.getD k rw0).em with
  | true => simp
  | false =>
    rw [he] at hb
    simp only [Bool.not_false, Bool.true_and, Bool.or_eq_false_iff, decide_eq_false_iff_not] at hb
    simp only [Bool.false_eq_true, if_false, List.length_append, List.length_replicate]
    have : (rs.getD k rw0).txt.data.toList.length = (rs.getD k rw0).txt.size := rfl
    omega
theorem linesT_bulk (rs : List Rw) : ∀ n, n ≤ rs.length → (∀ j, j < n → badT rs j = false) → bulkL (linesT rs n) ≤ n * 65536 + bulkT (rs.take n)
  | 0, _, _ => by simp [linesT, bulkL]
  | n + 1, h, hb => by
    have ih := linesT_bulk rs n (by omega) fun j hj => hb j (by omega)
    have h1 := lineT_le rs n (hb n (by omega))
    have h2 := bulkT_at rs n (by omega)
    unfold linesT bulkL at *
    rw [List.range_succ, List.map_append, List.map_append, List.sum_append]
    simp only [List.map_cons, List.map_nil, List.sum_cons, List.sum_nil, Nat.add_zero]
    omega
/-- is this the row behind the block? -/
theorem max_zero (c : Int) : (if c < 0 then (0 : Int) else c) = max c 0 := by
  split <;> omega
set_option maxHeartbeats 800000 in
theorem lies_any (r : Rw) (col : Int) (cb : Nat) (w : World) (hc : w.cell? ⟨cb, 0, none⟩ = some (.int .i64 col)) (hlt : cb < w.heap.size) :
    Calls Tryd.prog 88 #[.agg #[.int .i64 r.col, .string r.txt, .int .i64 r.ln], .pointer (some ⟨cb, 0, none⟩)] w fun e w' => e = .returned (.bool (r.lies col)) ∧ Below w.heap.size w w' := by
  have HB := Lib.hid ((Below.refl w.heap.size w).alloc (Nat.le_refl _) (.cells #[.int .i64 r.col, .string r.txt, .int .i64 r.ln] 53))
  have c0 : (w.alloc (.cells #[.int .i64 r.col, .string r.txt, .int .i64 r.ln] 53)).cell? ⟨cb, 0, none⟩ = some (.int .i64 col) := (HB.out.cell (p := ⟨cb, 0, none⟩) hlt).trans hc
  cases he : r.em with
  | true =>
    obtain ⟨e1, e2, e3, e4, e5⟩ := empty_facts (Rw.em_true he)
    have HF : Hid (r.lies col = false) := by show _ = _; unfold Rw.lies; rw [he]; rfl
    clear he hc
    go_enter Tryd.func88, Tryd.ntmps88
    go_wp2_with fail
    go_ret
    exact ⟨by rw [HF.out]; rfl, HB.out⟩
  | false =>
    obtain ⟨e1, e2, e3, e4, e5⟩ := nonempty_facts (Rw.em_false he)
    have HF : Hid (r.lies col = decide (r.at_ ≤ col)) := by show _ = _; unfold Rw.lies; rw [he]; rfl
    clear he hc
    go_enter Tryd.func88, Tryd.ntmps88
    go_wp2_with fail
    go_ret
    exact ⟨by rw [HF.out]; rfl, HB.out⟩
/-- where the row behind a block stands, or -1 -/
def indexT (rs : List Rw) (col : Int) : Int := if cntT rs col < rs.length then (cntT rs col : Nat) else -1
set_option maxHeartbeats 800000 in
theorem index_any (A : Option Addr) (c : Nat) (rs : List Rw) (col : Int) (cb : Nat) (w : World) (g : RowsIn w A c rs) (hl : rs.length ≤ 17592186044416) (hc : w.cell? ⟨cb, 0, none⟩ = some (.int .i64 col)) (hlt : cb < w.heap.size) :
    Calls Tryd.prog 77 #[.slice A rs.length c, .func (.func 88) #[] #[.pointer (some ⟨cb, 0, none⟩)]] w fun e w' => e = .returned (.int .i64 (indexT rs col)) ∧ Below w.heap.size w w' := by
  have G := Lib.hid g
  have LS := Lib.hid (fun r W (hW : Below w.heap.size w W) => lies_any r col cb W ((hW.cell (p := ⟨cb, 0, none⟩) hlt).trans hc) (Nat.lt_of_lt_of_le hlt hW.size))
  clear g hc hlt
  go_enter Tryd.func77, Tryd.ntmps77
  go_wp2_with fail
  go_loopw [8] (fun v wr => ∃ k : Nat, k ≤ rs.length ∧ v = .int .i64 (k : Nat) ∧ Hid (∀ j, j < k → (rs.getD j rw0).lies col = false) ∧ Hid (Below w.heap.size w wr)) (fun v _ => rs.length - (intOf v).toNat)
  case atStart => exact ⟨0, Nat.zero_le _, rfl, (fun j hj => by omega), Below.refl _ _⟩
  case round =>
    obtain ⟨k, hk, rfl, hno, hb⟩ := hrel
    by_cases hlt : k < rs.length
    · have hlt' : (k : Int) < (rs.length : Int) := by omega
      obtain ⟨b, off, hA, hbl, c0, c1, c2⟩ := (G.out.below hb.out).at_ k hlt
      subst hA
      have LR := LS.out (rs.getD k rw0) wr hb.out
      have HST := Lib.hid (fun h => cnt_stop hlt h hno.out)
      have HNX : Hid ((rs.getD k rw0).lies col = false → ∀ j, j < k + 1 → (rs.getD j rw0).lies col = false) := fun h j hj => by
        rcases Nat.lt_or_ge j k with h1 | h1
        · exact hno.out j h1
        · have : j = k := by omega
          subst this; exact h
      generalize rs.getD k rw0 = r at c0 c1 c2 LR HST HNX
      have LRH := Lib.hid LR
      clear LR hno
      go_wp2_with fail
      refine LRH.out.mono ?_
      rintro e w2 ⟨rfl, hb2⟩
      have HB2 := Lib.hid (hb.out.trans (hb2.mono hb.out.size))
      clear hb2
      cases hq : r.lies col with
      | true =>
        have HI : Hid (indexT rs col = (k : Nat)) := by show _ = _; unfold indexT; rw [HST.out hq, if_pos hlt]
        clear hq
        go_wp2_with fail
        go_ret
        exact ⟨by rw [HI.out]; rfl, HB2.out⟩
      | false =>
        have HN := Lib.hid (HNX.out hq)
        clear hq
        go_wp2_with fail
        go_roundw
        case rel => exact ⟨k + 1, by omega, by go_num, HN.out, HB2.out⟩
        case measure => simp [intOf]; omega
    · obtain rfl : k = rs.length := by omega
      have HI : Hid (indexT rs col = -1) := by show _ = _; unfold indexT; rw [cnt_end hno.out, if_neg (Nat.lt_irrefl _)]
      clear hno
      go_wp2_with fail
      go_ret
      exact ⟨by rw [HI.out]; rfl, hb.out⟩
end Go.Proofs.YtnggbhpnpomfjaaDoor.Bl
