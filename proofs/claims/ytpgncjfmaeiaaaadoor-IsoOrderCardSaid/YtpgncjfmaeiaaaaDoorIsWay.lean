/- The places of a graph, in order of going, plainly: each once, and just those that are reached; the value of a key. No program. -/
import Derived.Test.YtpgncjfmaeiaaaaDoorIsLaws
set_option linter.unusedVariables false
namespace Go.Proofs.YtpgncjfmaeiaaaaDoor.Is
/-- a place stands for the pair of itself -/
def chD (g : Gv) (x : Int × Int) : Bool × PrL := (true, (ndOf g x.1).kids.map fun k => (k, k))
def lefts (met : PrL) : List Int := met.reverse.map (·.1)
def orderN (g : Gv) : List Int := lefts (toF (chD g) (g.ns.length * g.ns.length + 1) [] (g.root, g.root)).2
theorem chD_in {g : Gv} (rg : rightN g = true) : ∀ x, InU g.ns.length g.ns.length x → ∀ c ∈ (chD g x).2, InU g.ns.length g.ns.length c := by
  intro x hx c hc
  obtain ⟨h1, h2, h3, h4⟩ := hx
  unfold chD at hc
  obtain ⟨k, hk, rfl⟩ := List.mem_map.1 hc
  have k1 := right_kids rg (in_ns h1 h2) _ hk
  exact ⟨k1.1, k1.2, k1.1, k1.2⟩
theorem chD_true {g : Gv} (rg : rightN g = true) {N : Nat} {met : PrL} {x : Int × Int} (hm : mu g.ns.length g.ns.length met < N) (hx : InU g.ns.length g.ns.length x) : (toF (chD g) N met x).1 = true :=
  toF_true (chD_in rg) N met x hm hx fun y _ => rfl
theorem chD_diag {g : Gv} {k : Int} {y : Int × Int} (h : Reach (chD g) (k, k) y) : y.1 = y.2 := h (fun y => y.1 = y.2) rfl fun x c hx hc => by
  unfold chD at hc
  obtain ⟨j, _, rfl⟩ := List.mem_map.1 hc
  rfl
theorem reach_node {g : Gv} {y : Int × Int} (h : Reach (chD g) (g.root, g.root) y) : NodeR g y.1 := h (fun y => NodeR g y.1) (fun S h0 _ => h0) fun x c hx hc => by
  unfold chD at hc
  obtain ⟨j, hj, rfl⟩ := List.mem_map.1 hc
  exact hx.kid hj
theorem node_reach {g : Gv} {k : Int} (h : NodeR g k) : Reach (chD g) (g.root, g.root) (k, k) := h (fun k => Reach (chD g) (g.root, g.root) (k, k)) (Reach.root _ _) fun x c hx hc => hx.kid (List.mem_map.2 ⟨c, hc, rfl⟩)
theorem order_mem {g : Gv} (rg : rightN g = true) (k : Int) : k ∈ orderN g ↔ NodeR g k := by
  have ht := chD_true rg (N := g.ns.length * g.ns.length + 1) (met := []) (x := (g.root, g.root)) (by rw [mu_nil]; exact Nat.lt_succ_self _) (root_in rg rg)
  have hm := toF_mem ht
  unfold orderN lefts
  rw [List.mem_map]
  constructor
  · rintro ⟨y, hy, rfl⟩
    exact reach_node ((hm y).1 (List.mem_reverse.1 hy))
  · intro h
    exact ⟨(k, k), List.mem_reverse.2 ((hm _).2 (node_reach h)), rfl⟩
theorem order_nodup {g : Gv} (rg : rightN g = true) : (orderN g).Nodup := by
  have ht := chD_true rg (N := g.ns.length * g.ns.length + 1) (met := []) (x := (g.root, g.root)) (by rw [mu_nil]; exact Nat.lt_succ_self _) (root_in rg rg)
  have hm := toF_mem ht
  have hd := toF_nodup (chD g) (g.ns.length * g.ns.length + 1) [] (g.root, g.root) List.nodup_nil
  unfold orderN lefts
  refine List.pairwise_map.2 (List.Pairwise.imp_of_mem (fun {x y} hx hy hne e => hne ?_) (List.pairwise_reverse.2 (List.Pairwise.imp (fun h => Ne.symm h) hd)))
  have e1 := chD_diag ((hm x).1 (List.mem_reverse.1 hx))
  have e2 := chD_diag ((hm y).1 (List.mem_reverse.1 hy))
  exact Prod.ext e (by rw [← e1, ← e2]; exact e)
theorem order_many {a b : Gv} {ord : Bool} (ra : rightN a = true) (rb : rightN b = true) (h : tellN a b ord true = true) : (orderN a).length = (orderN b).length :=
  as_many ra rb ((tell_iff ra rb).1 h) (order_nodup ra) (order_nodup rb) (order_mem ra) (order_mem rb)
/-! ### the value of a key -/
theorem find_at {g : Gv} (rg : rightN g = true) {k : Nat} (hk : k < g.ns.length) (h6 : (g.ns.getD k nd0).kind = 6) {i : Nat} (hi : 2 * i + 1 < (g.ns.getD k nd0).kids.length) :
    findN g (k : Int) (keyAt g.ns ((g.ns.getD k nd0).kids.getD (2 * i) 0)).1 (keyAt g.ns ((g.ns.getD k nd0).kids.getD (2 * i) 0)).2 = ((g.ns.getD k nd0).kids.getD (2 * i + 1) 0, true) := by
  unfold findN
  have hd := right_dist rg (getD_memD hk)
  rw [if_pos ⟨rg, by omega, by omega, h6⟩]
  have := entTo_at hd h6 hi
  show (match entTo g.ns (g.ns.getD k nd0).kids ((g.ns.getD k nd0).kids.length / 2) (keyAt g.ns ((g.ns.getD k nd0).kids.getD (2 * i) 0)) with | some x => (x.2, true) | none => (0, false)) = _
  rw [this]
def thereN (g : Gv) (n : Nd) (kind : Int) (txt : ByteArray) (j : Nat) : Bool := (List.range j).any fun i => decide ((keyAt g.ns (n.kids.getD (2 * i) 0)).1 = kind) && decide ((keyAt g.ns (n.kids.getD (2 * i) 0)).2 = txt)
theorem there_succ (g : Gv) (n : Nd) (kind : Int) (txt : ByteArray) (j : Nat) : thereN g n kind txt (j + 1) = (thereN g n kind txt j || (decide ((keyAt g.ns (n.kids.getD (2 * j) 0)).1 = kind) && decide ((keyAt g.ns (n.kids.getD (2 * j) 0)).2 = txt))) := by
  unfold thereN
  rw [List.range_succ, List.any_append]
  simp
theorem find_there {g : Gv} (rg : rightN g = true) {k : Nat} (hk : k < g.ns.length) (kind : Int) (txt : ByteArray) :
    (findN g (k : Int) kind txt).2 = (decide ((g.ns.getD k nd0).kind = 6) && thereN g (g.ns.getD k nd0) kind txt ((g.ns.getD k nd0).kids.length / 2)) := by
  unfold findN
  by_cases h6 : (g.ns.getD k nd0).kind = 6
  · rw [if_pos ⟨rg, by omega, by omega, h6⟩, decide_eq_true h6, Bool.true_and]
    show (match entTo g.ns (g.ns.getD k nd0).kids ((g.ns.getD k nd0).kids.length / 2) (kind, txt) with | some x => (x.2, true) | none => (0, false)).2 = _
    cases h : entTo g.ns (g.ns.getD k nd0).kids ((g.ns.getD k nd0).kids.length / 2) (kind, txt) with
    | none =>
      have h1 := entTo_none _ h
      symm
      show thereN _ _ _ _ _ = false
      unfold thereN
      rw [List.any_eq_false]
      intro i hi
      rw [List.mem_range] at hi
      have := h1 i hi
      intro hc
      simp only [Bool.and_eq_true, decide_eq_true_eq] at hc
      exact this (Prod.ext hc.1 hc.2)
    | some e =>
      obtain ⟨i, i1, i2, _⟩ := entTo_some _ h
      symm
      show thereN _ _ _ _ _ = true
      unfold thereN
      rw [List.any_eq_true]
      exact ⟨i, List.mem_range.2 i1, by rw [i2]; simp⟩
  · rw [if_neg (fun h => h6 h.2.2.2), decide_eq_false h6]
    rfl
end Go.Proofs.YtpgncjfmaeiaaaaDoor.Is
