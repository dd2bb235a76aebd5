/- The document's pairs: what is known on the way, plainly; and how a row of pairs lies. No walk. -/
import Derived.Test.YtpgncjfmaeiaaaaDoorIsRefA
import Derived.Test.YtpgncjfmaeiaaaaDoorIsList
set_option linter.unusedVariables false
namespace Go.Proofs.YtpgncjfmaeiaaaaDoor.Is
open Go.RowKit
def prCells (l : PrL) : List Value := l.flatMap fun x => [.int .i64 x.1, .int .i64 x.2]
theorem prCells_append (l m : PrL) : prCells (l ++ m) = prCells l ++ prCells m := by simp [prCells, List.flatMap_append]
theorem prCells_get : ∀ (l : PrL) (i : Nat), i < l.length → (prCells l)[i * 2]? = some (.int .i64 (l.getD i (0, 0)).1) ∧ (prCells l)[i * 2 + 1]? = some (.int .i64 (l.getD i (0, 0)).2)
  | [], i, h => absurd h (Nat.not_lt_zero _)
  | a :: l, 0, h => ⟨rfl, rfl⟩
  | a :: l, i + 1, h => by
    have ih := prCells_get l i (by simpa using h)
    have e : prCells (a :: l) = Value.int .i64 a.1 :: .int .i64 a.2 :: prCells l := rfl
    rw [e, List.getD_cons_succ, show (i + 1) * 2 = i * 2 + 2 by omega, show i * 2 + 2 + 1 = (i * 2 + 1) + 2 by omega]
    simp only [List.getElem?_cons_succ]
    exact ih
def PRow (w : World) (B : Nat) (A : Option Addr) (c : Nat) (l : PrL) : Prop := w.ownsRow B 75 2 (.slice A l.length c) l.length (prCells l)
theorem PRow.below {w w' : World} {B : Nat} {A : Option Addr} {c : Nat} {l : PrL} (h : PRow w B A c l) (hb : Below w.heap.size w w') : PRow w' B A c l := own_below h hb
theorem PRow.prrow {w : World} {B : Nat} {A : Option Addr} {c : Nat} {l : PrL} (h : PRow w B A c l) : PrRow w A l := by
  intro i hi
  rcases h.2 with ⟨h1, h2⟩ | ⟨g, cap, cur, h1, hg, hh, hn, hm, hs, ht⟩
  · omega
  · injection h1 with h1 _ h3
    subst h1
    obtain ⟨g0, g1⟩ := prCells_get l i hi
    have at_ : ∀ j, j < l.length * 2 → w.cell? ⟨g, 0 + j, none⟩ = (prCells l)[j]? := fun j hj => by rw [Nat.zero_add]; exact World.ownsRow.cellAt h j hj
    exact ⟨g, 0, rfl, blt hh, (at_ _ (by omega)).trans g0, by rw [Nat.add_assoc]; exact (at_ _ (by omega)).trans g1⟩
theorem infoPair : (Tryd.prog.info? 75).map (fun i => (i.zero, i.size, i.bytes)) = some (some (.agg #[.int .i64 0, .int .i64 0]), 2, 16) := by kernel_rfl
def KeyGood (a b : Gv) (ord : Bool) (x : Int × Int) (q : Nat) : Prop := (ndOf a x.1).kind = 6 → ∃ j, keyIx b.ns (ndOf b x.2).kids (keyAt a.ns ((ndOf a x.1).kids.getD (q - q % 2) 0)) ((ndOf b x.2).kids.length / 2) 0 = some j ∧ (ord = true → 2 * j = q - q % 2)
def SameHead (a b : Gv) (x : Int × Int) : Prop := (ndOf a x.1).kind = (ndOf b x.2).kind ∧ (ndOf a x.1).txt = (ndOf b x.2).txt ∧ (ndOf a x.1).kids.length = (ndOf b x.2).kids.length
theorem kid_one {a b : Gv} {ord : Bool} {x : Int × Int} {k : Nat} (hd : SameHead a b x) (da : Dist a.ns (ndOf a x.1)) (hk : k < (ndOf a x.1).kids.length) (hg : KeyGood a b ord x k) : KidR a b ord x (pairAt a b x k) ∧ ∃ J, otherIx a b x k = some J ∧ J < (ndOf b x.2).kids.length := by
  obtain ⟨h1, h2, h3⟩ := hd
  by_cases h6 : (ndOf a x.1).kind = 6
  · have hev := (da h6).1
    obtain ⟨j, j1, j2⟩ := hg h6
    have hj := keyIx_some _ _ _ j1
    have ho : otherIx a b x k = some (2 * j + k % 2) := by unfold otherIx; rw [if_pos h6, j1]; rfl
    have hp : pairAt a b x k = ((ndOf a x.1).kids.getD k 0, (ndOf b x.2).kids.getD (2 * j + k % 2) 0) := by unfold pairAt; rw [ho]; rfl
    refine ⟨?_, _, ho, by omega⟩
    rw [hp]
    cases ord with
    | true =>
      have := j2 rfl
      refine Or.inr ⟨fun h => (by cases h.2), k, hk, by omega, ?_⟩
      rw [show 2 * j + k % 2 = k by omega]
    | false =>
      refine Or.inl ⟨h6, rfl, k / 2, j, by omega, by omega, ?_, ?_⟩
      · rw [hj.2.2, show k - k % 2 = 2 * (k / 2) by omega]
      · rcases Nat.mod_two_eq_zero_or_one k with e | e
        · exact Or.inl (by rw [e, show 2 * (k / 2) = k by omega, Nat.add_zero])
        · exact Or.inr (by rw [e, show 2 * (k / 2) + 1 = k by omega])
  · have ho : otherIx a b x k = some k := by unfold otherIx; rw [if_neg h6]
    have hp : pairAt a b x k = ((ndOf a x.1).kids.getD k 0, (ndOf b x.2).kids.getD k 0) := by unfold pairAt; rw [ho]; rfl
    refine ⟨?_, _, ho, by omega⟩
    rw [hp]
    exact Or.inr ⟨fun h => h6 h.1, k, hk, by omega, rfl⟩
theorem good_of {a b : Gv} {ord : Bool} {x : Int × Int} (hd : SameHead a b x) (h : ∀ q, q < (ndOf a x.1).kids.length → KeyGood a b ord x q) : GoodO a b ord x := by
  refine ⟨hd.1, hd.2.1, hd.2.2, fun h6 i hi => ?_⟩
  obtain ⟨j, j1, j2⟩ := h (2 * i) (by omega) h6
  have hj := keyIx_some _ _ _ j1
  rw [show 2 * i - 2 * i % 2 = 2 * i by omega] at hj j2
  exact ⟨j, by omega, hj.2.2.symm, fun e => by have := j2 e; omega⟩
theorem key_bad {a b : Gv} {ord : Bool} {x : Int × Int} {k : Nat} (da : Dist a.ns (ndOf a x.1)) (db : Dist b.ns (ndOf b x.2)) (hk : k < (ndOf a x.1).kids.length) (hb : ¬ KeyGood a b ord x k) : ¬ GoodO a b ord x := fun h => hb fun h6 => by
  have hev := (da h6).1
  obtain ⟨h1, h2, h3, h4⟩ := h
  obtain ⟨j, j1, j2, j3⟩ := h4 h6 (k / 2) (by omega)
  refine ⟨j, ?_, fun e => by have := j3 e; omega⟩
  rw [show k - k % 2 = 2 * (k / 2) by omega]
  exact keyIx_is db (h1 ▸ h6) j1 j2.symm
theorem not_ag {a b : Gv} {ord : Bool} {x : Int × Int} (ra : rightN a = true) (rb : rightN b = true) (hx : RchR a b ord x) (h : ¬ GoodO a b ord x) : ¬ AG a b ord := fun hg => h ((ago_iff ra rb).2 hg x hx)
/-- the inner loop -/
structure PairsIn (a b : Gv) (ord : Bool) (l : PrL) (x : Int × Int) (m : PrL) (k : Nat) : Prop where
  nodup : m.Nodup
  reach : ∀ y ∈ m, RchR a b ord y
  pre : ∃ t, m = l ++ t
  keys : ∀ q, q < k → KeyGood a b ord x q
  got : ∀ q, q < k → pairAt a b x q ∈ m
theorem PairsIn.start {a b : Gv} {ord : Bool} {l : PrL} {i : Nat} (h : PairsInv a b ord l i) (x : Int × Int) : PairsIn a b ord l x l 0 :=
  ⟨h.nodup, h.reach, ⟨[], by simp⟩, fun q hq => absurd hq (Nat.not_lt_zero _), fun q hq => absurd hq (Nat.not_lt_zero _)⟩
theorem PairsIn.old {a b : Gv} {ord : Bool} {l m : PrL} {x : Int × Int} {k : Nat} (h : PairsIn a b ord l x m k) (hk : KeyGood a b ord x k) (hm : pairAt a b x k ∈ m) : PairsIn a b ord l x m (k + 1) :=
  ⟨h.nodup, h.reach, h.pre, fun q hq => by
    rcases Nat.lt_succ_iff_lt_or_eq.1 hq with e | e
    · exact h.keys q e
    · rw [e]; exact hk, fun q hq => by
    rcases Nat.lt_succ_iff_lt_or_eq.1 hq with e | e
    · exact h.got q e
    · rw [e]; exact hm⟩
theorem PairsIn.new {a b : Gv} {ord : Bool} {l m : PrL} {x : Int × Int} {k : Nat} (h : PairsIn a b ord l x m k) (hk : KeyGood a b ord x k) (hr : RchR a b ord (pairAt a b x k)) (hm : pairAt a b x k ∉ m) : PairsIn a b ord l x (m ++ [pairAt a b x k]) (k + 1) :=
  ⟨by
    rw [List.nodup_append]
    exact ⟨h.nodup, by simp, fun y hy z hz e => by rw [List.mem_singleton.1 hz] at e; rw [e] at hy; exact hm hy⟩, fun y hy => by
    rcases List.mem_append.1 hy with e | e
    · exact h.reach y e
    · rw [List.mem_singleton.1 e]; exact hr, by
    obtain ⟨t, ht⟩ := h.pre
    exact ⟨t ++ [pairAt a b x k], by rw [ht, List.append_assoc]⟩, fun q hq => by
    rcases Nat.lt_succ_iff_lt_or_eq.1 hq with e | e
    · exact h.keys q e
    · rw [e]; exact hk, fun q hq => by
    rcases Nat.lt_succ_iff_lt_or_eq.1 hq with e | e
    · exact List.mem_append_left _ (h.got q e)
    · rw [e]; simp⟩
theorem PairsIn.len {a b : Gv} {ord : Bool} {l m : PrL} {x : Int × Int} {k : Nat} (ra : rightN a = true) (rb : rightN b = true) (h : PairsIn a b ord l x m k) : m.length ≤ 16777216 := by
  have h1 := inj_len (R := Eq) (fun x x' y e e' => e.trans e'.symm) m (univ a.ns.length b.ns.length) h.nodup (fun y hy => ⟨y, mem_univ (rch_in ra rb (h.reach y hy)), rfl⟩)
  rw [univ_len] at h1
  have h2 := (right_len ra).2.1
  have h3 := (right_len rb).2.1
  have h4 : a.ns.length * b.ns.length ≤ 4096 * 4096 := Nat.mul_le_mul h2 h3
  omega
theorem PairsInv.len {a b : Gv} {ord : Bool} {l : PrL} {i : Nat} (ra : rightN a = true) (rb : rightN b = true) (h : PairsInv a b ord l i) : l.length ≤ 16777216 := (PairsIn.start h (0, 0)).len ra rb
theorem PairsIn.done {a b : Gv} {ord : Bool} {l m : PrL} {x : Int × Int} {i : Nat} (ra : rightN a = true) (rb : rightN b = true) (hI : PairsInv a b ord l i) (hi : i < l.length) (hx : l.getD i (0, 0) = x) (hd : SameHead a b x) (h : PairsIn a b ord l x m (ndOf a x.1).kids.length) : PairsInv a b ord m (i + 1) := by
  have hxl : x ∈ l := by rw [← hx, List.getD_eq_getElem?_getD, List.getElem?_eq_getElem hi]; exact List.getElem_mem _
  have hin := rch_in ra rb (hI.reach x hxl)
  have da := dist_l ra hin.1 hin.2.1
  have db := dist_l rb hin.2.2.1 hin.2.2.2
  have hg := good_of hd h.keys
  obtain ⟨t, ht⟩ := h.pre
  refine ⟨h.nodup, h.reach, by rw [ht]; exact List.mem_append_left _ hI.root, fun k y hk hy => ?_⟩
  have hlk : l[k]? = some y := by
    rw [ht, List.getElem?_append_left (by omega)] at hy
    exact hy
  rcases Nat.lt_succ_iff_lt_or_eq.1 hk with e | e
  · obtain ⟨g1, g2⟩ := hI.done k y e hlk
    exact ⟨g1, fun c hc => by rw [ht]; exact List.mem_append_left _ (g2 c hc)⟩
  · subst e
    have : y = x := by
      rw [List.getD_eq_getElem?_getD, hlk] at hx
      exact hx
    subst this
    refine ⟨hg, fun c hc => ?_⟩
    obtain ⟨q, hq, rfl⟩ := (kid_at da db hg c).1 hc
    exact h.got q hq
end Go.Proofs.YtpgncjfmaeiaaaaDoor.Is
