/- Pairs of places: what a pairing is in memory; to note a pair. Conditions: none but lengths. -/
import Derived.Test.YtpgncjfmaeiaaaaDoorIsFind
set_option linter.unusedVariables false
namespace Go.Proofs.YtpgncjfmaeiaaaaDoor.Is
open Go.RowKit
open Go.Maps (Keyed)
abbrev PrL := List (Int × Int)
/-- only the blocks of S are written -/
structure Keep (S : Nat → Prop) (w w' : World) : Prop where
  os : w'.os = w.os
  tape : w'.tape = w.tape
  output : w'.output = w.output
  size : w.heap.size ≤ w'.heap.size
  block : ∀ k, k < w.heap.size → ¬ S k → w'.heap[k]? = w.heap[k]?
theorem Keep.trans {S : Nat → Prop} {a b c : World} (h : Keep S a b) (k : Keep S b c) : Keep S a c :=
  ⟨k.os.trans h.os, k.tape.trans h.tape, k.output.trans h.output, Nat.le_trans h.size k.size, fun i hi hn => (k.block i (Nat.lt_of_lt_of_le hi h.size) hn).trans (h.block i hi hn)⟩
theorem Keep.of_below {S : Nat → Prop} {w w' : World} (h : Below w.heap.size w w') : Keep S w w' := ⟨h.os, h.tape, h.output, h.size, fun k hk _ => h.block k hk⟩
theorem Keep.of_grown {S : Nat → Prop} {w w' : World} {b : Nat} (h : w.grownBy w' (some b)) (hb : S b) : Keep S w w' := ⟨h.os, h.tape, h.output, h.size, fun k hk hn => h.block k hk fun e => hn (by injection e with e; rw [e]; exact hb)⟩
theorem Keep.cell {S : Nat → Prop} {w w' : World} (h : Keep S w w') {a : Addr} {v : Value} (hv : w.cell? a = some v) (hn : ¬ S a.block) : w'.cell? a = some v := by
  have hlt := block_lt_of_cell hv
  unfold World.cell? at hv ⊢
  rw [h.block _ hlt hn]
  exact hv
theorem Keep.below {S : Nat → Prop} {B : Nat} {a w w' : World} (h : Keep S w w') (hb : Below B a w) (hS : ∀ k, S k → B ≤ k) (hB : B ≤ w.heap.size) : Below B a w' :=
  hb.trans ⟨h.os, h.tape, h.output, h.size, fun k hk => h.block k (by omega) fun hs => by have := hS k hs; omega⟩
def shareB (x : Int × Int) (met : PrL) : Bool := met.any fun y => decide (y.1 = x.1) || decide (y.2 = x.2)
/-- a place is paired with two -/
def twN : PrL → Bool
  | [] => false
  | x :: met => twN met || shareB x met
def leftOf (met : PrL) (a : Int) : Option Int := (met.find? fun y => decide (y.1 = a)).map (·.2)
def rightOf (met : PrL) (b : Int) : Option Int := (met.find? fun y => decide (y.2 = b)).map (·.1)
structure PIs (fm fl fr : Value → Option Value) (met : PrL) : Prop where
  m : ∀ x, fm (pairV x) = if x ∈ met then some (.bool true) else none
  l : ∀ a, fl (.int .i64 a) = (leftOf met a).map (.int .i64 ·)
  r : ∀ b, fr (.int .i64 b) = (rightOf met b).map (.int .i64 ·)
structure Sh where
  p : Nat
  M : Nat
  L : Nat
  R : Nat
def Sh.S (h : Sh) (k : Nat) : Prop := k = h.p ∨ k = h.M ∨ k = h.L ∨ k = h.R
structure Sh.Apart (h : Sh) : Prop where
  pm : h.p ≠ h.M
  pl : h.p ≠ h.L
  pr : h.p ≠ h.R
  ml : h.M ≠ h.L
  mr : h.M ≠ h.R
  lr : h.L ≠ h.R
def pCells (h : Sh) (a b : Gv) (ord tw : Bool) : Array Value := #[.slice a.A a.ns.length a.c, .int .i64 a.root, .slice b.A b.ns.length b.c, .int .i64 b.root, .bool ord, .map (some h.M), .map (some h.L), .map (some h.R), .bool tw]
/-- a pairing in memory -/
structure PIn (w : World) (h : Sh) (a b : Gv) (ord : Bool) (met : PrL) : Prop where
  box : w.heap[h.p]? = some (.cells (pCells h a b ord (twN met)) 70 (0, 0))
  apart : h.Apart
  maps : ∃ fm fl fr, MF w 55 h.M met.length fm ∧ MF w 3 h.L met.length fl ∧ MF w 3 h.R met.length fr ∧ PIs fm fl fr met
theorem PIn.below {w w' : World} {h : Sh} {a b : Gv} {ord : Bool} {met : PrL} (P : PIn w h a b ord met) (hb : Below w.heap.size w w') : PIn w' h a b ord met := by
  obtain ⟨fm, fl, fr, h1, h2, h3, h4⟩ := P.maps
  exact ⟨(hb.block _ (blt P.box)).trans P.box, P.apart, fm, fl, fr, h1.below hb, h2.below hb, h3.below hb, h4⟩
theorem leftOf_cons (x : Int × Int) (met : PrL) (a : Int) : leftOf (x :: met) a = if x.1 = a then some x.2 else leftOf met a := by
  unfold leftOf
  rw [List.find?_cons]
  by_cases h : x.1 = a <;> simp [h]
theorem rightOf_cons (x : Int × Int) (met : PrL) (b : Int) : rightOf (x :: met) b = if x.2 = b then some x.1 else rightOf met b := by
  unfold rightOf
  rw [List.find?_cons]
  by_cases h : x.2 = b <;> simp [h]
theorem leftOf_mem {met : PrL} {a b : Int} (h : leftOf met a = some b) : (a, b) ∈ met := by
  unfold leftOf at h
  cases hf : met.find? fun y => decide (y.1 = a) with
  | none => rw [hf] at h; cases h
  | some y =>
    rw [hf] at h
    have h1 := List.find?_some hf
    have h2 := List.mem_of_find?_eq_some hf
    simp at h1 h
    subst h1 h
    exact h2
theorem rightOf_mem {met : PrL} {a b : Int} (h : rightOf met b = some a) : (a, b) ∈ met := by
  unfold rightOf at h
  cases hf : met.find? fun y => decide (y.2 = b) with
  | none => rw [hf] at h; cases h
  | some y =>
    rw [hf] at h
    have h1 := List.find?_some hf
    have h2 := List.mem_of_find?_eq_some hf
    simp at h1 h
    subst h1 h
    exact h2
theorem share_iff {x : Int × Int} {met : PrL} : shareB x met = ((leftOf met x.1).isSome || (rightOf met x.2).isSome) := by
  induction met with
  | nil => rfl
  | cons y met ih =>
    unfold shareB at *
    rw [List.any_cons, ih, leftOf_cons, rightOf_cons]
    by_cases h1 : y.1 = x.1 <;> by_cases h2 : y.2 = x.2 <;> simp [h1, h2]
theorem iV_inj {a b : Int} (h : Value.int .i64 a = Value.int .i64 b) : a = b := by injection h
theorem PIs.put {fm fl fr : Value → Option Value} {met : PrL} (h : PIs fm fl fr met) (x : Int × Int) : PIs (put1 fm (pairV x) (.bool true)) (put1 fl (.int .i64 x.1) (.int .i64 x.2)) (put1 fr (.int .i64 x.2) (.int .i64 x.1)) (x :: met) := by
  refine ⟨fun y => ?_, fun a => ?_, fun b => ?_⟩
  · by_cases hy : y = x
    · subst hy
      rw [put1_same, if_pos (by simp)]
    · rw [put1_other (fun e => hy (pairV_inj e)), h.m y]
      by_cases hm : y ∈ met
      · rw [if_pos hm, if_pos (by simp [hm])]
      · rw [if_neg hm, if_neg (by simp [hm, hy])]
  · rw [leftOf_cons]
    by_cases ha : x.1 = a
    · subst ha
      rw [put1_same, if_pos rfl]
      rfl
    · rw [put1_other (fun e => ha (iV_inj e).symm), if_neg ha, h.l a]
  · rw [rightOf_cons]
    by_cases hb : x.2 = b
    · subst hb
      rw [put1_same, if_pos rfl]
      rfl
    · rw [put1_other (fun e => hb (iV_inj e).symm), if_neg hb, h.r b]
end Go.Proofs.YtpgncjfmaeiaaaaDoor.Is
