/- A list of itself, so many lists round: the walk. Conditions: one or two. -/
import Derived.Test.YtpgncjfmaeiaaaaDoorIsAll
import Derived.Deep.AppendLies
import Derived.Deep.RegionLaw
set_option linter.unusedVariables false
namespace Go.Proofs.YtpgncjfmaeiaaaaDoor.Is
open Go.RowKit
def ndCells (l : List Nd) : List Value := l.flatMap fun n => [.int .i64 n.kind, .string n.txt, .slice n.ka n.kids.length n.kc]
theorem ndCells_len (l : List Nd) : (ndCells l).length = l.length * 3 := by
  induction l with
  | nil => rfl
  | cons a l ih => simp only [ndCells, List.flatMap_cons, List.length_append, List.length_cons, List.length_nil] at *; omega
theorem ndCells_append (l m : List Nd) : ndCells (l ++ m) = ndCells l ++ ndCells m := by simp [ndCells, List.flatMap_append]
theorem ndCells_get : ∀ (l : List Nd) (i : Nat), i < l.length → (ndCells l)[i * 3]? = some (.int .i64 (l.getD i nd0).kind) ∧ (ndCells l)[i * 3 + 1]? = some (.string (l.getD i nd0).txt) ∧ (ndCells l)[i * 3 + 2]? = some (.slice (l.getD i nd0).ka (l.getD i nd0).kids.length (l.getD i nd0).kc)
  | [], i, h => absurd h (Nat.not_lt_zero _)
  | a :: l, 0, h => ⟨rfl, rfl, rfl⟩
  | a :: l, i + 1, h => by
    have ih := ndCells_get l i (by simpa using h)
    have e : ndCells (a :: l) = Value.int .i64 a.kind :: .string a.txt :: .slice a.ka a.kids.length a.kc :: ndCells l := rfl
    rw [e, List.getD_cons_succ]
    have q : (i + 1) * 3 = i * 3 + 3 := by omega
    have q1 : (i + 1) * 3 + 1 = i * 3 + 1 + 3 := by omega
    have q2 : (i + 1) * 3 + 2 = i * 3 + 2 + 3 := by omega
    rw [q, show i * 3 + 3 + 1 = (i * 3 + 1) + 3 by omega, show i * 3 + 3 + 2 = (i * 3 + 2) + 3 by omega]
    simp only [List.getElem?_cons_succ]
    exact ih
/-- nodes laid one by one, each with one kid in a block of its own -/
structure LIn (w : World) (B : Nat) (A : Option Addr) (c : Nat) (l : List Nd) : Prop where
  row : w.ownsRow B 38 3 (.slice A l.length c) l.length (ndCells l)
  kid : ∀ n ∈ l, ∃ b x, n = ⟨5, ⟨#[]⟩, [x], some ⟨b, 0, none⟩, 1⟩ ∧ wf64 x ∧ b < w.heap.size ∧ w.cell? ⟨b, 0, none⟩ = some (.int .i64 x) ∧ (Value.slice A l.length c).ownBlock ≠ some b
theorem LIn.below {w w' : World} {B : Nat} {A : Option Addr} {c : Nat} {l : List Nd} (h : LIn w B A c l) (hb : Below w.heap.size w w') : LIn w' B A c l :=
  ⟨own_below h.row hb, fun n hn => by
    obtain ⟨b, x, h1, h2, h3, h4, h5⟩ := h.kid n hn
    exact ⟨b, x, h1, h2, Nat.lt_of_lt_of_le h3 hb.size, (hb.cell (p := ⟨b, 0, none⟩) h3).trans h4, h5⟩⟩
theorem LIn.graph {w : World} {B : Nat} {A : Option Addr} {c : Nat} {l : List Nd} (h : LIn w B A c l) : GrIn w ⟨A, c, l, 0⟩ := by
  refine ⟨fun i hi => ?_, fun n hn => ?_, ?_, (⟨by decide, by decide⟩ : wf64 0)⟩
  · rcases h.row.2 with ⟨h1, h2⟩ | ⟨g, cap, cur, h1, hg, hh, hn, hm, hs, ht⟩
    · simp only at hi; omega
    · injection h1 with h1 _ h3
      subst h1
      obtain ⟨g0, g1, g2⟩ := ndCells_get l i hi
      have hi' : i < l.length := hi
      have at_ : ∀ j, j < l.length * 3 → w.cell? ⟨g, 0 + j, none⟩ = (ndCells l)[j]? := fun j hj => by rw [Nat.zero_add]; exact h.row.cellAt j hj
      exact ⟨g, 0, rfl, blt hh, (at_ _ (by omega)).trans g0, by rw [Nat.add_assoc]; exact (at_ _ (by omega)).trans g1, by rw [Nat.add_assoc]; exact (at_ _ (by omega)).trans g2⟩
  · obtain ⟨b, x, rfl, h2, h3, h4, _⟩ := h.kid n hn
    refine ⟨fun i hi => ?_, Nat.le_refl _, fun k hk => ?_, (⟨by decide, by decide⟩ : wf64 5)⟩
    · obtain rfl : i = 0 := by simpa using hi
      exact ⟨b, 0, rfl, h3, h4⟩
    · obtain rfl : k = x := by simpa using hk
      exact h2
  · rcases h.row.2 with ⟨h1, h2⟩ | ⟨g, cap, cur, h1, hg, hh, hn, _⟩
    · show l.length ≤ c; omega
    · injection h1 with _ _ h3
      show l.length ≤ c
      omega
theorem LIn.kept {w w' : World} {B q : Nat} {A : Option Addr} {c : Nat} {l : List Nd} (h : LIn w B A c l) (hg : w.grownBy w' (some q)) (hqB : q < B) (hq : ∀ x, w.cell? ⟨q, 0, none⟩ ≠ some (.int .i64 x)) : LIn w' B A c l :=
  ⟨h.row.kept hg (Or.inr fun e => by have := (h.row.lt q e).1; omega), fun n hn => by
    obtain ⟨b, x, h1, h2, h3, h4, h5⟩ := h.kid n hn
    exact ⟨b, x, h1, h2, Nat.lt_of_lt_of_le h3 hg.size, hg.cell h4 (fun e => by injection e with e; subst e; exact hq x h4), h5⟩⟩
theorem setRow_grown (w : World) (g : Nat) (cs : Array Value) : w.grownBy (w.setRow g cs) (some g) :=
  ⟨rfl, rfl, rfl, by simp [World.setRow], fun k hk hn => by simp only [World.setRow, Array.getElem?_modify]; rw [if_neg (fun e => hn (by rw [e]))]⟩
theorem infoNode : (Tryd.prog.info? 38).map (fun i => (i.zero, i.size, i.bytes)) = some (some (.agg #[.int .i64 0, .string ⟨#[]⟩, .slice none 0 0]), 3, 48) := by kernel_rfl
def ListPost (n : Nat) (w : World) (e : Ending) (w' : World) : Prop := ∃ g : Gv, e = .returned g.val ∧ GrIn w' g ∧ Below w.heap.size w w' ∧ g.root = 0 ∧ g.ns.length = n ∧ ∀ i, i < n → ∃ k e, g.ns.getD i nd0 = ⟨5, ⟨#[]⟩, [(((i : Int) + 1) % n)], k, e⟩
theorem list_news (wr : World) (xv : Int) (j : Nat) (u : Value) (h : ([.int .i64 5, .string ⟨#[]⟩, .slice (some ⟨wr.heap.size, 0, none⟩) 1 1] : List Value)[j]? = some u) : ((wr.alloc (.cells #[.int .i64 xv] 3)).alloc (.cells #[.int .i64 5, .string ⟨#[]⟩, .slice (some ⟨wr.heap.size, 0, none⟩) 1 1] 38)).drew.cell? ((⟨wr.heap.size + 1, 0, none⟩ : Addr).add j) = some u := by
  have hs1 : (wr.alloc (.cells #[.int .i64 xv] 3)).heap.size = wr.heap.size + 1 := by simp
  have h9 := heap_new (wr.alloc (.cells #[.int .i64 xv] 3)) #[.int .i64 5, .string ⟨#[]⟩, .slice (some ⟨wr.heap.size, 0, none⟩) 1 1] 38
  rw [hs1] at h9
  rw [addr_add, Nat.zero_add]
  refine Eq.trans (bcell (w := ((wr.alloc (.cells #[.int .i64 xv] 3)).alloc (.cells #[.int .i64 5, .string ⟨#[]⟩, .slice (some ⟨wr.heap.size, 0, none⟩) 1 1] 38)).drew) h9 j) ?_
  rw [← Array.getElem?_toList]
  exact h
theorem list_step {w wr w4 : World} {A : Option Addr} {c gg cp : Nat} {l : List Nd} {xv : Int} (hL : LIn wr (w.heap.size + 2) A c l) (hX : wr.heap[w.heap.size]? = some (.cells #[.slice none 0 0, .int .i64 0] 24 (0, 0))) (hQ : wr.heap[w.heap.size + 1]? = some (.cells #[.slice A l.length c, .int .i64 0] 24 (0, 0))) (hB : Below w.heap.size w wr) (hx : wf64 xv)
    (own4 : w4.ownsRow (w.heap.size + 2) 38 3 (.slice (some ⟨gg, 0, none⟩) (l.length + 1) cp) (l.length + 1) (ndCells l ++ [.int .i64 5, .string ⟨#[]⟩, .slice (some ⟨wr.heap.size, 0, none⟩) 1 1]))
    (grow4 : (((wr.alloc (.cells #[.int .i64 xv] 3)).alloc (.cells #[.int .i64 5, .string ⟨#[]⟩, .slice (some ⟨wr.heap.size, 0, none⟩) 1 1] 38)).drew).grownBy w4 (Value.slice A l.length c).ownBlock) (hat4 : (Value.slice A l.length c).ownBlock = some gg ∨ gg = wr.heap.size + 2) :
    LIn (w4.setCell ⟨w.heap.size + 1, 0, none⟩ (.slice (some ⟨gg, 0, none⟩) (l.length + 1) cp)) (w.heap.size + 2) (some ⟨gg, 0, none⟩) cp (l ++ [⟨5, ⟨#[]⟩, [xv], some ⟨wr.heap.size, 0, none⟩, 1⟩]) ∧
    (w4.setCell ⟨w.heap.size + 1, 0, none⟩ (.slice (some ⟨gg, 0, none⟩) (l.length + 1) cp)).heap[w.heap.size]? = some (.cells #[.slice none 0 0, .int .i64 0] 24 (0, 0)) ∧
    (w4.setCell ⟨w.heap.size + 1, 0, none⟩ (.slice (some ⟨gg, 0, none⟩) (l.length + 1) cp)).heap[w.heap.size + 1]? = some (.cells #[.slice (some ⟨gg, 0, none⟩) (l.length + 1) cp, .int .i64 0] 24 (0, 0)) ∧
    Below w.heap.size w (w4.setCell ⟨w.heap.size + 1, 0, none⟩ (.slice (some ⟨gg, 0, none⟩) (l.length + 1) cp)) ∧ w4.cell? ⟨w.heap.size + 1, 0, none⟩ = some (.slice A l.length c) ∧ w4.frozen? ⟨w.heap.size + 1, 0, none⟩ = false := by
  have BV : Below wr.heap.size wr ((wr.alloc (.cells #[.int .i64 xv] 3)).alloc (.cells #[.int .i64 5, .string ⟨#[]⟩, .slice (some ⟨wr.heap.size, 0, none⟩) 1 1] 38)).drew := dr ((ext_world wr _).alloc (by simp) _) 1
  have hVs : ((wr.alloc (.cells #[.int .i64 xv] 3)).alloc (.cells #[.int .i64 5, .string ⟨#[]⟩, .slice (some ⟨wr.heap.size, 0, none⟩) 1 1] 38)).drew.heap.size = wr.heap.size + 2 := by
    show ((wr.alloc _).alloc _).heap.size = _
    simp
  have hVk : ((wr.alloc (.cells #[.int .i64 xv] 3)).alloc (.cells #[.int .i64 5, .string ⟨#[]⟩, .slice (some ⟨wr.heap.size, 0, none⟩) 1 1] 38)).drew.cell? ⟨wr.heap.size, 0, none⟩ = some (.int .i64 xv) :=
    (Below.cell (ext_world (wr.alloc (.cells #[.int .i64 xv] 3)) _) (p := ⟨wr.heap.size, 0, none⟩) (by simp)).trans (bcell (heap_new wr _ _) 0)
  generalize ((wr.alloc (.cells #[.int .i64 xv] 3)).alloc (.cells #[.int .i64 5, .string ⟨#[]⟩, .slice (some ⟨wr.heap.size, 0, none⟩) 1 1] 38)).drew = V at BV hVs hVk grow4
  have hlt := hL.row.lt
  have hq := blt hQ
  have nq : ∀ j, j < w.heap.size + 2 → some j ≠ (Value.slice A l.length c).ownBlock := fun j hj e => by have := (hlt j e.symm).1; omega
  have q4 : w4.heap[w.heap.size + 1]? = some (.cells #[.slice A l.length c, .int .i64 0] 24 (0, 0)) := (grow4.block _ (by omega) (nq _ (by omega))).trans ((BV.block _ hq).trans hQ)
  have x4 : w4.heap[w.heap.size]? = some (.cells #[.slice none 0 0, .int .i64 0] 24 (0, 0)) := (grow4.block _ (by omega) (nq _ (by omega))).trans ((BV.block _ (by omega)).trans hX)
  have hg5 := setCell_grown w4 (w.heap.size + 1) 0 (.slice (some ⟨gg, 0, none⟩) (l.length + 1) cp)
  have hs4 := grow4.size
  refine ⟨⟨?_, ?_⟩, ?_, block_set q4 0 _, ?_, bcell q4 0, bfree q4 0⟩
  · rw [List.length_append, ndCells_append]
    exact ownsRow_setCell_below own4 (a := ⟨w.heap.size + 1, 0, none⟩) (by show w.heap.size + 1 < w.heap.size + 2; omega) _
  · intro m hm
    rw [List.length_append]
    have bnew : ∀ b, b < wr.heap.size → (Value.slice A l.length c).ownBlock ≠ some b → (Value.slice (some (⟨gg, 0, none⟩ : Addr)) (l.length + 1) cp).ownBlock ≠ some b := fun b hb hne e => by
      have e1 : gg = b := by injection e
      rcases hat4 with h | h
      · rw [h, e1] at hne; exact hne rfl
      · omega
    rcases List.mem_append.1 hm with hm | hm
    · obtain ⟨b, x, h1, h2, h3, h4, h5⟩ := hL.kid m hm
      refine ⟨b, x, h1, h2, by show b < (w4.setCell _ _).heap.size; have := hg5.size; omega, ?_, bnew b h3 h5⟩
      have h6 := grow4.cell ((BV.cell (p := ⟨b, 0, none⟩) h3).trans h4) (fun e => h5 e.symm)
      by_cases hbq : b = w.heap.size + 1
      · subst hbq
        rw [bcell q4 0] at h6
        cases h6
      · exact hg5.cell h6 (fun e => by injection e with e; exact hbq e)
    · obtain rfl := List.mem_singleton.1 hm
      have hno : (Value.slice A l.length c).ownBlock ≠ some wr.heap.size := fun e => by have := (hlt _ e).2; omega
      refine ⟨wr.heap.size, xv, rfl, hx, by show wr.heap.size < (w4.setCell _ _).heap.size; have := hg5.size; omega, ?_, fun e => ?_⟩
      · exact hg5.cell (grow4.cell hVk (fun e => hno e.symm)) (fun e => absurd (show wr.heap.size = w.heap.size + 1 from (by injection e)) (by omega))
      · have e1 : gg = wr.heap.size := by injection e
        rcases hat4 with h | h
        · rw [e1] at h; exact hno h
        · omega
  · exact (hg5.block _ (by have := blt x4; exact this) (by intro e; injection e with e; omega)).trans x4
  · exact setCell_below ((hB.trans (BV.mono hB.size)).grown grow4 (by have := hB.size; omega) (fun j hj => by have := (hlt j hj).1; omega)) (by omega) (by have := hB.size; omega)
set_option maxRecDepth 100000 in
set_option maxHeartbeats 3200000 in
theorem list_any (n : Nat) (h1 : 1 ≤ n) (h2 : n ≤ 2) (w : World) : Calls Tryd.prog 19 #[.int .i64 (n : Int)] w (ListPost n w) := by
  obtain ⟨i0, hi, hz0, hz1, hz2⟩ := info_parts infoNode
  have BV : Hid (Below w.heap.size w ((w.alloc (.cells #[.slice none 0 0, .int .i64 0] 24)).alloc (.cells #[.slice none 0 0, .int .i64 0] 24))) := (ext_world w _).alloc (by simp) _
  have hs1 : (w.alloc (.cells #[.slice none 0 0, .int .i64 0] 24)).heap.size = w.heap.size + 1 := by simp
  have HX : Hid (((w.alloc (.cells #[.slice none 0 0, .int .i64 0] 24)).alloc (.cells #[.slice none 0 0, .int .i64 0] 24)).heap[w.heap.size]? = some (.cells #[.slice none 0 0, .int .i64 0] 24 (0, 0))) := ((ext_world (w.alloc _) _).block w.heap.size (by simp)).trans (heap_new w _ _)
  have HQ : Hid (((w.alloc (.cells #[.slice none 0 0, .int .i64 0] 24)).alloc (.cells #[.slice none 0 0, .int .i64 0] 24)).heap[w.heap.size + 1]? = some (.cells #[.slice none 0 0, .int .i64 0] 24 (0, 0))) := by
    have h9 := heap_new (w.alloc (.cells #[.slice none 0 0, .int .i64 0] 24)) #[.slice none 0 0, .int .i64 0] 24
    rw [hs1] at h9
    exact h9
  have HL0 : Hid (LIn ((w.alloc (.cells #[.slice none 0 0, .int .i64 0] 24)).alloc (.cells #[.slice none 0 0, .int .i64 0] 24)) (w.heap.size + 2) none 0 []) := ⟨World.ownsRow_nil _ _ _ _, fun m hm => absurd hm List.not_mem_nil⟩
  have hn0 : (n : Int) ≠ 0 := by omega
  have hn1 : n ≠ 0 := by omega
  clear hs1
  go_enter Tryd.func19, Tryd.ntmps19
  go_wp2_with fail
  go_loopw [6] (fun v wr => ∃ (l : List Nd) (A : Option Addr) (c : Nat), l.length ≤ n ∧ v = .int .i64 (l.length : Nat) ∧ Hid (LIn wr (w.heap.size + 2) A c l) ∧ Hid (wr.heap[w.heap.size]? = some (.cells #[.slice none 0 0, .int .i64 0] 24 (0, 0))) ∧ Hid (wr.heap[w.heap.size + 1]? = some (.cells #[.slice A l.length c, .int .i64 0] 24 (0, 0))) ∧ Hid (Below w.heap.size w wr) ∧ Hid (∀ i, i < l.length → ∃ k e, l.getD i nd0 = ⟨5, ⟨#[]⟩, [(((i : Int) + 1) % n)], k, e⟩)) (fun v _ => n - (intOf v).toNat)
  case atStart => exact ⟨[], none, 0, Nat.zero_le _, rfl, HL0.out, HX.out, HQ.out, BV.out, fun i hi => absurd hi (Nat.not_lt_zero _)⟩
  case round =>
    obtain ⟨l, A, c, hll, rfl, hL, hX, hQ, hB, hI⟩ := hrel
    by_cases hlt : l.length < n
    · have hltI : (l.length : Int) < (n : Int) := by omega
      have d0 : wr.cell? ⟨w.heap.size + 1, 0, none⟩ = some (.slice A l.length c) := bcell hQ.out 0
      have f0 : wr.frozen? ⟨w.heap.size + 1, 0, none⟩ = false := bfree hQ.out 0
      have ht3 : IntKind.i64.wrap ((l.length : Int) + 1) = (l.length : Int) + 1 := IntWalk.i64_in _ ⟨by omega, by omega⟩
      obtain ⟨k, hk⟩ : ∃ k, k = l.length := ⟨_, rfl⟩
      rw [← hk] at d0 ht3 hltI hlt ⊢
      have HK := Lib.hid hk
      clear hk
      have hwr : w.heap.size + 1 < wr.heap.size := blt hQ.out
      have HTM : ((k : Int) + 1).tmod n = ((k : Int) + 1) % n := Int.tmod_eq_emod_of_nonneg (by omega)
      have HWX : Hid (wf64 (((k : Int) + 1) % n)) := by
        have h8 := Int.emod_nonneg ((k : Int) + 1) hn0
        have h9 := Int.emod_lt_of_pos ((k : Int) + 1) (show (0 : Int) < n by omega)
        show _ ∧ _
        omega
      go_wp2_with fail
      have e1 : (wr.alloc (.cells #[.int .i64 (((k : Int) + 1) % n)] 3)).cell? ⟨w.heap.size + 1, 0, none⟩ = some (.slice A k c) := ((ext_world wr _).cell (p := ⟨w.heap.size + 1, 0, none⟩) hwr).trans d0
      have e2 : ((wr.alloc (.cells #[.int .i64 (((k : Int) + 1) % n)] 3)).alloc (.cells #[.int .i64 5, .string ⟨#[]⟩, .slice (some ⟨wr.heap.size, 0, none⟩) 1 1] 38)).cell? ⟨w.heap.size + 1, 0, none⟩ = some (.slice A k c) := ((Below.cell (ext_world (wr.alloc (.cells #[.int .i64 (((k : Int) + 1) % n)] 3)) _) (p := ⟨w.heap.size + 1, 0, none⟩) (by have := hwr; simp; omega))).trans e1
      have HLk := Lib.hid hL.out.row
      rw [← HK.out] at HLk
      have hkk : k ≤ 2 := by omega
      go_region_law
        ((refine step_append_lies _ (by rfl) _ _ _ (by rfl) (w.heap.size + 2) 38 i0 _ 3 48 Tryd.underlying22 hi hz0 hz1 hz2 (by rfl) (by omega) (.slice A k c) k (ndCells l) (by rfl) (own_below HLk.out (dr ((ext_world wr _).alloc (by simp) _) 1)) ⟨wr.heap.size + 1, 0, none⟩ 1 1 [.int .i64 5, .string ⟨#[]⟩, .slice (some ⟨wr.heap.size, 0, none⟩) 1 1] (by rfl) (by rfl) (list_news wr _) (by intro u hu; simp at hu; rcases hu with rfl | rfl | rfl <;> rfl) (by omega) (by unfold maxLen; omega) (by omega) (by simp; omega) (wr.heap.size + 2) (by simp) ?_
          intro gg cp w4 own4 grow4 hat4 hlt4
          have ST := Lib.hid (list_step hL.out hX.out hQ.out hB.out HWX.out (by rw [← HK.out]; exact own4) (by rw [← HK.out]; exact grow4) (by rw [← HK.out]; exact hat4))
          have z3 := ST.out.2.2.2.2.1
          have z3f := ST.out.2.2.2.2.2
          rw [← HK.out] at z3 ST
          clear own4 grow4 hat4 hlt4))
      all_goals
        have LEN : Hid ((l ++ [(⟨5, ⟨#[]⟩, [((k : Int) + 1) % n], some ⟨wr.heap.size, 0, none⟩, 1⟩ : Nd)]).length = k + 1) := by
          show _ = _
          rw [List.length_append, HK.out]
          rfl
        have HI2 : Hid (∀ i, i < k + 1 → ∃ kk e, (l ++ [(⟨5, ⟨#[]⟩, [((k : Int) + 1) % n], some ⟨wr.heap.size, 0, none⟩, 1⟩ : Nd)]).getD i nd0 = ⟨5, ⟨#[]⟩, [(((i : Int) + 1) % n)], kk, e⟩) := fun i hi2 => by
          by_cases hik : i < k
          · obtain ⟨kk, e, h9⟩ := hI.out i (by rw [← HK.out]; exact hik)
            refine ⟨kk, e, ?_⟩
            rw [List.getD_eq_getElem?_getD, List.getElem?_append_left (by rw [← HK.out]; exact hik), ← List.getD_eq_getElem?_getD, h9]
          · obtain rfl : i = k := by omega
            refine ⟨some ⟨wr.heap.size, 0, none⟩, 1, ?_⟩
            rw [List.getD_eq_getElem?_getD, List.getElem?_append_right (by rw [← HK.out]; exact Nat.le_refl _), ← HK.out, Nat.sub_self]
            rfl
        go_wp2_with fail
        go_roundw
        case rel => exact ⟨_, _, _, by rw [LEN.out]; omega, by rw [LEN.out]; go_num, ST.out.1, ST.out.2.1, by rw [LEN.out]; exact ST.out.2.2.1, ST.out.2.2.2.1, by rw [LEN.out]; exact HI2.out⟩
        case measure => simp [intOf]; omega
    · have hll2 : l.length = n := by omega
      have hltI : ¬ ((l.length : Int) < (n : Int)) := by omega
      rw [hll2] at hQ hI hltI ⊢
      have d0 : wr.cell? ⟨w.heap.size + 1, 0, none⟩ = some (.slice A n c) := bcell hQ.out 0
      have d1 : wr.cell? ⟨w.heap.size + 1, 1, none⟩ = some (.int .i64 0) := bcell hQ.out 1
      have hone : (#[Value.slice A n c, Value.int .i64 0]).all (·.oneCell') = true := by simp [Value.oneCell']
      have HLN := Lib.hid hll2
      clear hll2
      go_wp2_with (refine wpList_store_row rfl 24 _ _ rfl w.heap.size #[.slice A n c, .int .i64 0] rfl rfl 24 _ hX.out (by kernel_rfl) rfl hone ?_)
      have R4 := setRow_heap _ _ _ #[.slice A n c, .int .i64 0] _ _ hX.out
      have HG := Lib.hid ((hL.out.kept (setRow_grown wr w.heap.size #[.slice A n c, .int .i64 0]) (by omega) (fun x e => by rw [bcell hX.out 0] at e; cases e)).graph)
      have B4 : Hid (Below w.heap.size w (wr.setRow w.heap.size #[.slice A n c, .int .i64 0])) := hB.out.trans (setRow_below wr (Nat.le_refl _) _)
      have y0 : (wr.setRow w.heap.size #[.slice A n c, .int .i64 0]).cell? ⟨w.heap.size, 0, none⟩ = some (.slice A n c) := bcell R4 0
      have y1 : (wr.setRow w.heap.size #[.slice A n c, .int .i64 0]).cell? ⟨w.heap.size, 1, none⟩ = some (.int .i64 0) := bcell R4 1
      exact bodyPost_ret (v := .agg #[.slice A n c, .int .i64 0]) (by simp [results, Tryd.results19, go_sem, y0, y1]) rfl ⟨⟨A, c, l, 0⟩, by unfold Gv.val; rw [HLN.out], HG.out, B4.out, rfl, HLN.out, hI.out⟩
end Go.Proofs.YtpgncjfmaeiaaaaDoor.Is
