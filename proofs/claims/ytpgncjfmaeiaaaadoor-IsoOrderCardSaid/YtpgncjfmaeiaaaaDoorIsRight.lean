/- Is a graph right. Conditions: texts and rows no longer than 10^6 where the graph is not too large; the library's variables as they are laid. -/
import Derived.Test.YtpgncjfmaeiaaaaDoorIsNode
import Derived.Laws.MakeOwn
set_option linter.unusedVariables false
namespace Go.Proofs.YtpgncjfmaeiaaaaDoor.Is
open Go.RowKit
def cntCells (n : Nat) (f : Nat → Nat) : List Value := (List.range n).map fun i => Value.int .i64 ((f i : Nat) : Int)
def Cnt (w : World) (U n : Nat) (f : Nat → Nat) : Prop := w.heap[U]? = some (.cells (cntCells n f).toArray 3 (0, 0))
theorem Cnt.cell {w : World} {U n : Nat} {f : Nat → Nat} (h : Cnt w U n f) {k : Nat} (hk : k < n) : w.cell? ⟨U, k, none⟩ = some (.int .i64 ((f k : Nat) : Int)) := by
  rw [bcell h]
  simp [cntCells, hk]
theorem Cnt.free {w : World} {U n : Nat} {f : Nat → Nat} (h : Cnt w U n f) (k : Nat) : w.frozen? ⟨U, k, none⟩ = false := bfree h k
theorem Cnt.lt {w : World} {U n : Nat} {f : Nat → Nat} (h : Cnt w U n f) : U < w.heap.size := blt h
theorem Cnt.below {w w' : World} {U n : Nat} {f : Nat → Nat} (h : Cnt w U n f) (hb : Below w.heap.size w w') : Cnt w' U n f := (hb.block _ h.lt).trans h
theorem Cnt.eq {w : World} {U n : Nat} {f g : Nat → Nat} (h : Cnt w U n f) (he : ∀ k, k < n → f k = g k) : Cnt w U n g := by
  unfold Cnt at *
  rw [h]
  have : cntCells n f = cntCells n g := by
    unfold cntCells
    apply List.map_congr_left
    intro k hk
    rw [he k (List.mem_range.1 hk)]
  rw [this]
theorem Cnt.bump {w : World} {U n : Nat} {f g : Nat → Nat} (h : Cnt w U n f) {k : Nat} (hk : k < n) {v : Int} (hv : v = ((g k : Nat) : Int)) (he : ∀ j, j < n → j ≠ k → f j = g j) : Cnt (w.setCell ⟨U, k, none⟩ (.int .i64 v)) U n g := by
  unfold Cnt
  rw [block_set h k]
  have : (cntCells n f).toArray.setIfInBounds k (Value.int .i64 v) = (cntCells n g).toArray := by
    apply Array.ext
    · simp [cntCells]
    · intro i h1 h2
      have hi : i < n := by simpa [cntCells] using h2
      rw [Array.getElem_setIfInBounds (by simpa [cntCells] using hi)]
      by_cases hik : k = i
      · subst hik
        simp [cntCells, hv]
      · simp [cntCells, hik, he i hi (fun e => hik e.symm)]
  rw [← this]
theorem setCell_grown (w : World) (U k : Nat) (v : Value) : w.grownBy (w.setCell ⟨U, k, none⟩ v) (some U) :=
  ⟨rfl, rfl, rfl, by simp [World.setCell], fun j _ hj => Below.heap_setCell _ _ _ _ (fun e => hj (by rw [e]))⟩
theorem setCell_below {B : Nat} {a w : World} (h : Below B a w) {U k : Nat} {v : Value} (hU : B ≤ U) (hB : B ≤ w.heap.size) : Below B a (w.setCell ⟨U, k, none⟩ v) := h.grown (setCell_grown w U k v) hB (fun j hj => by injection hj with hj; omega)
theorem setCell_cell {w : World} {U k : Nat} {u v : Value} {a : Addr} (h : w.cell? a = some u) (hne : a.block ≠ U) : (w.setCell ⟨U, k, none⟩ v).cell? a = some u := (setCell_grown w U k v).cell h (by intro e; injection e with e; exact hne e)
theorem madeInts (n : Nat) : madeCells #[.int .i64 0] n = (cntCells n fun _ => 0).toArray := by
  apply Array.ext
  · simp [size_madeCells, cntCells]
  · intro i h1 h2
    have hi : i < n := by simpa [size_madeCells] using h1
    simp [madeCells, cntCells, Nat.mod_one]
theorem mk_counts (n : Nat) (hn : n ≤ 1000000) (w : World) : ∃ U w', (Instr.makeSlice 36 (.int .i64 (n : Int)) (.int .i64 (n : Int))).run Tryd.prog w = .ok (.slice (some ⟨U, 0, none⟩) n n) w' ∧ Cnt w' U n (fun _ => 0) ∧ Below w.heap.size w w' ∧ U = w.heap.size := by
  obtain ⟨i0, hi, hz0, hz1, hz2⟩ := info_parts infoInt
  have h := run_make (P := Tryd.prog) w 36 3 i0 (.int .i64 0) Tryd.underlying36 hi hz0 .i64 .i64 (n : Int) (n : Int) (by omega) (by omega) (by rw [hz2]; omega) (by omega)
  rw [hz1] at h
  simp only [Value.cells, Int.toNat_natCast, Nat.mul_one, madeInts] at h
  exact ⟨_, _, h, heap_new _ _ _, ext_world _ _, rfl⟩
/-- how often a place is used, by the first nodes -/
def usesTo (root : Int) (ns : List Nd) (i k : Nat) : Nat := (if (k : Int) = root then 1 else 0) + ((ns.take i).map fun m => m.kids.count (k : Int)).sum
theorem usesTo_succ {root : Int} {ns : List Nd} {i : Nat} (h : i < ns.length) (k : Nat) : usesTo root ns (i + 1) k = usesTo root ns i k + (ns.getD i nd0).kids.count (k : Int) := by
  unfold usesTo
  rw [List.take_succ_eq_append_getElem h, List.map_append, List.sum_append, List.getD_eq_getElem?_getD, List.getElem?_eq_getElem h]
  simp
  omega
theorem usesTo_le {root : Int} {ns : List Nd} (hs : ∀ m ∈ ns, m.kids.length ≤ 1000000) (k : Nat) : ∀ i, i ≤ ns.length → usesTo root ns i k ≤ 1 + i * 1000000 := by
  intro i
  induction i with
  | zero => intro _; unfold usesTo; simp; split <;> omega
  | succ i ih =>
    intro h
    rw [usesTo_succ (by omega)]
    have h1 := ih (by omega)
    have h2 : (ns.getD i nd0).kids.count (k : Int) ≤ 1000000 := Nat.le_trans List.count_le_length (hs _ (getD_memD (by omega)))
    omega
theorem count_take {l : List Int} {j : Nat} (h : j < l.length) (k : Int) : (l.take (j + 1)).count k = (l.take j).count k + if l.getD j 0 = k then 1 else 0 := by
  rw [List.take_succ_eq_append_getElem h, List.count_append, List.getD_eq_getElem?_getD, List.getElem?_eq_getElem h]
  simp [List.count_singleton]
def usedB (root : Int) (ns : List Nd) (k : Int) : Bool := decide (1 < usesTo root ns ns.length k.toNat)
/-- is a graph right -/
def rightN (g : Gv) : Bool := decide (1 ≤ g.ns.length) && (decide (g.ns.length ≤ 4096) && (decide (0 ≤ g.root) && (decide (g.root < g.ns.length) && (g.ns.all (nodeB g.ns) && g.ns.all fun m => !(keysN m).any (usedB g.root g.ns)))))
theorem useat_any (p U n : Nat) (f : Nat → Nat) (k : Nat) (w : World) (hp : w.cell? ⟨p, 0, none⟩ = some (.slice (some ⟨U, 0, none⟩) n n)) (C : Cnt w U n f) (hk : k < n) :
    Calls Tryd.prog 27 #[.int .i64 (k : Int), .pointer (some ⟨p, 0, none⟩)] w fun e w' => e = .returned (.bool (decide (1 < f k))) ∧ Hid (Below w.heap.size w w') := by
  have hc := C.cell hk
  have hkI : (k : Int) < (n : Int) := by omega
  have HD : Hid (∀ b, b = decide ((1 : Int) < ((f k : Nat) : Int)) → b = decide (1 < f k)) := fun b hb => by
    rw [hb]
    by_cases h : 1 < f k
    · rw [decide_eq_true h, decide_eq_true (by omega)]
    · rw [decide_eq_false h, decide_eq_false (by omega)]
  generalize decide (1 < f k) = R at HD ⊢
  generalize f k = fk at hc HD
  clear C
  go_enter Tryd.func27, Tryd.ntmps27
  go_wp2_with fail
  go_ret
  exact ⟨by rw [← HD.out _ rfl]; rfl, Below.refl _ _⟩
end Go.Proofs.YtpgncjfmaeiaaaaDoor.Is
