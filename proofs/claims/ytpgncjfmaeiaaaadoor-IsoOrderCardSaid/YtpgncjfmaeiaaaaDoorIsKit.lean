/- Graphs: what a node, a graph is in memory; small laws. Conditions: none. -/
import Derived.Test.YtpgncjfmaeiaaaaDoorProg
import Derived.WalkKit
import Derived.Below
import Derived.BigQuiet
import Derived.Deep.QuietTactic
import Derived.Deep.LoopGhost
import Derived.Deep.DeepCutAuto
import Derived.Deep.RegionHeld3
import Derived.Deep.RegionLaw
import Derived.IntWalk
import Derived.Lib.Hide
import Derived.Laws.Tables
import Derived.Laws.AppendOwn
import Derived.Laws.OwnMore
import Derived.ArgAppend
import Derived.ProofKit
import Derived.StillTailTactics
import Derived.Maps.OwnSet
import Derived.Maps.OwnOps
import Derived.WalkSpells
set_option linter.unusedVariables false
namespace Go.Proofs.YtpgncjfmaeiaaaaDoor.Is
open Go.RowKit
theorem blt {w : World} {i : Nat} {o : Obj} (h : w.heap[i]? = some o) : i < w.heap.size := (Array.getElem?_eq_some_iff.1 h).1
theorem bcell {w : World} {g : Nat} {cs : Array Value} {t : TypeId} {fr : Nat × Nat} (h : w.heap[g]? = some (.cells cs t fr)) (i : Nat) : w.cell? ⟨g, i, none⟩ = cs[i]? := by
  simp [World.cell?, h]
theorem bfree {w : World} {g : Nat} {cs : Array Value} {t : TypeId} (h : w.heap[g]? = some (.cells cs t (0, 0))) (i : Nat) : w.frozen? ⟨g, i, none⟩ = false := by
  simp [World.frozen?, h]
theorem heap_new (w : World) (cs : Array Value) (t : TypeId) : (w.alloc (.cells cs t)).heap[w.heap.size]? = some (.cells cs t (0, 0)) := heap_alloc_new w _
theorem dr {B : Nat} {a w : World} (h : Below B a w) (n : Nat) : Below B a (w.drewN n) := h.trans ⟨rfl, rfl, rfl, Nat.le_refl _, fun _ _ => rfl⟩
def wf64 (x : Int) : Prop := -9223372036854775808 ≤ x ∧ x < 9223372036854775808
theorem setRow_below (w : World) {B g : Nat} (h : B ≤ g) (cs : Array Value) : Below B w (w.setRow g cs) :=
  ⟨rfl, rfl, rfl, by simp [World.setRow], fun k hk => by simp only [World.setRow, Array.getElem?_modify]; rw [if_neg (by omega)]⟩
/-- a block that was laid last -/
def Kept (w w2 : World) (t : TypeId) (cs : Array Value) : Prop := w2.heap[w.heap.size]? = some (.cells cs t (0, 0)) ∧ Below w.heap.size w w2
theorem Kept.first (w : World) (t : TypeId) (cs : Array Value) : Kept w (w.alloc (.cells cs t)) t cs := ⟨heap_new w cs t, (Below.refl _ w).alloc (Nat.le_refl _) _⟩
theorem Kept.set {w w2 : World} {t : TypeId} {cs : Array Value} (h : Kept w w2 t cs) (ds : Array Value) : Kept w (w2.setRow w.heap.size ds) t ds := ⟨setRow_heap _ _ _ _ _ _ h.1, h.2.trans (setRow_below w2 (Nat.le_refl _) ds)⟩
theorem Kept.cell {w w2 : World} {t : TypeId} {cs : Array Value} (h : Kept w w2 t cs) (i : Nat) : w2.cell? ⟨w.heap.size, i, none⟩ = cs[i]? := bcell h.1 i
theorem Kept.below {w w2 w3 : World} {t : TypeId} {cs : Array Value} (h : Kept w w2 t cs) (hb : Below w2.heap.size w2 w3) : Kept w w3 t cs := ⟨(hb.block _ (blt h.1)).trans h.1, h.2.trans (hb.mono h.2.size)⟩
theorem addr_add (b off i : Nat) : (⟨b, off, none⟩ : Addr).add i = ⟨b, off + i, none⟩ := by unfold Addr.add; split <;> simp_all
/-- a node: its kind, its text, its kids, where they lie -/
structure Nd where
  kind : Int
  txt : ByteArray
  kids : List Int
  ka : Option Addr
  kc : Nat
def nd0 : Nd := ⟨0, ⟨#[]⟩, [], none, 0⟩
instance : Inhabited Nd := ⟨nd0⟩
def Nd.val (n : Nd) : Value := .agg #[.int .i64 n.kind, .string n.txt, .slice n.ka n.kids.length n.kc]
structure KidsAt (w : World) (n : Nd) : Prop where
  get : ∀ i, i < n.kids.length → ∃ b off, n.ka = some ⟨b, off, none⟩ ∧ b < w.heap.size ∧ w.cell? ⟨b, off + i, none⟩ = some (.int .i64 (n.kids.getD i 0))
  cap : n.kids.length ≤ n.kc
  wf : ∀ k ∈ n.kids, wf64 k
  kwf : wf64 n.kind
/-- a graph: where its nodes lie, the nodes, the root -/
structure Gv where
  A : Option Addr
  c : Nat
  ns : List Nd
  root : Int
def Gv.val (g : Gv) : Value := .agg #[.slice g.A g.ns.length g.c, .int .i64 g.root]
structure GrIn (w : World) (g : Gv) : Prop where
  get : ∀ i, i < g.ns.length → ∃ b off, g.A = some ⟨b, off, none⟩ ∧ b < w.heap.size ∧ w.cell? ⟨b, off + i * 3, none⟩ = some (.int .i64 (g.ns.getD i nd0).kind) ∧ w.cell? ⟨b, off + i * 3 + 1, none⟩ = some (.string (g.ns.getD i nd0).txt) ∧ w.cell? ⟨b, off + i * 3 + 2, none⟩ = some (.slice (g.ns.getD i nd0).ka (g.ns.getD i nd0).kids.length (g.ns.getD i nd0).kc)
  kids : ∀ n ∈ g.ns, KidsAt w n
  cap : g.ns.length ≤ g.c
  root : wf64 g.root
theorem KidsAt.below {w w' : World} {n : Nd} (h : KidsAt w n) (hb : Below w.heap.size w w') : KidsAt w' n :=
  ⟨fun i hi => by
    obtain ⟨b, off, h1, h2, h3⟩ := h.get i hi
    exact ⟨b, off, h1, Nat.lt_of_lt_of_le h2 hb.size, (hb.cell (p := ⟨b, _, none⟩) h2).trans h3⟩, h.cap, h.wf, h.kwf⟩
theorem GrIn.below {w w' : World} {g : Gv} (h : GrIn w g) (hb : Below w.heap.size w w') : GrIn w' g :=
  ⟨fun i hi => by
    obtain ⟨b, off, h1, h2, h3, h4, h5⟩ := h.get i hi
    exact ⟨b, off, h1, Nat.lt_of_lt_of_le h2 hb.size, (hb.cell (p := ⟨b, _, none⟩) h2).trans h3, (hb.cell (p := ⟨b, _, none⟩) h2).trans h4, (hb.cell (p := ⟨b, _, none⟩) h2).trans h5⟩, fun n hn => (h.kids n hn).below hb, h.cap, h.root⟩
theorem getD_memD {l : List Nd} {i : Nat} (h : i < l.length) : l.getD i nd0 ∈ l := by
  rw [List.getD_eq_getElem?_getD, List.getElem?_eq_getElem h]
  exact List.getElem_mem h
theorem nd_one (n : Nd) : (#[Value.int .i64 n.kind, Value.string n.txt, Value.slice n.ka n.kids.length n.kc]).all (·.oneCell') = true := by simp [Value.oneCell']
def weigh (l : List Nd) : Nat := (l.map fun n => min n.kids.length 500 + min n.txt.size 2000).sum
theorem weigh_take {l : List Nd} {k : Nat} (h : k < l.length) : weigh (l.take (k + 1)) = weigh (l.take k) + (min (l.getD k nd0).kids.length 500 + min (l.getD k nd0).txt.size 2000) := by
  unfold weigh
  rw [List.take_succ_eq_append_getElem h, List.map_append, List.sum_append, List.getD_eq_getElem?_getD, List.getElem?_eq_getElem h]
  simp
theorem weigh_le (l : List Nd) : weigh l ≤ 2500 * l.length := by
  induction l with
  | nil => exact Nat.zero_le _
  | cons a l ih =>
    unfold weigh at *
    rw [List.map_cons, List.sum_cons, List.length_cons]
    omega
def largeN (l : List Nd) : Bool := (decide (60 < l.length) && decide (l.length ≤ 4096)) || decide (400 < weigh (l.take 60))
set_option maxRecDepth 100000 in
theorem scalar_any (k : Int) (w : World) : Calls Tryd.prog 36 #[.int .i64 k] w fun e w' => e = .returned (.bool (decide (1 ≤ k) && decide (k ≤ 4))) ∧ w = w' := by
  by_cases h1 : 1 ≤ k
  · by_cases h2 : k ≤ 4
    · rw [decide_eq_true h1, decide_eq_true h2]
      go_enter Tryd.func36, Tryd.ntmps36
      go_wp2_with fail
      go_ret
      exact ⟨rfl, rfl⟩
    · rw [decide_eq_true h1, decide_eq_false h2]
      go_enter Tryd.func36, Tryd.ntmps36
      go_wp2_with fail
      go_ret
      exact ⟨rfl, rfl⟩
  · rw [decide_eq_false h1]
    go_enter Tryd.func36, Tryd.ntmps36
    go_wp2_with fail
    go_ret
    exact ⟨rfl, rfl⟩
set_option maxRecDepth 100000 in
set_option maxHeartbeats 3200000 in
theorem large_any (w : World) (g : Gv) (G0 : GrIn w g) : Calls Tryd.prog 7 #[g.val] w fun e w' => e = .returned (.bool (largeN g.ns)) ∧ Hid (Below w.heap.size w w') := by
  obtain ⟨A, c, ns, root⟩ := g
  have G := Lib.hid G0
  have hcap := G0.cap
  simp only at hcap
  obtain ⟨n, hn⟩ : ∃ n, n = ns.length := ⟨_, rfl⟩
  have HN := Lib.hid hn
  unfold Gv.val
  simp only
  rw [← hn] at hcap ⊢
  obtain ⟨R, hR⟩ : ∃ R, R = largeN ns := ⟨_, rfl⟩
  rw [← hR]
  have HR := Lib.hid hR
  clear hR
  have WT : Hid (∀ k, k < n → weigh (ns.take (k + 1)) = weigh (ns.take k) + (min (ns.getD k nd0).kids.length 500 + min (ns.getD k nd0).txt.size 2000)) := fun k hk => weigh_take (by rw [← HN.out]; omega)
  have WL : Hid (∀ k, k ≤ 60 → weigh (ns.take k) ≤ 150000) := fun k hk => by
    have h1 := weigh_le (ns.take k)
    have h2 : (ns.take k).length ≤ 60 := by rw [List.length_take]; omega
    omega
  have HB0 : Hid (Below w.heap.size w (w.alloc (.cells #[.slice A n c, .int .i64 root] 24))) := (Below.refl _ w).alloc (Nat.le_refl _) _
  clear G0 hn
  by_cases h60 : 60 < n
  · have h60I : (60 : Int) < (n : Int) := by omega
    have hc60 : (60 : Int) ≤ (c : Int) := by omega
    go_enter Tryd.func7, Tryd.ntmps7
    go_wp2_with fail
    go_loopw [3, 14] (fun u v wr => ∃ k : Nat, k ≤ 60 ∧ u = .int .i64 (weigh (ns.take k) : Nat) ∧ v = .int .i64 (k : Nat) ∧ Hid (Below w.heap.size w wr) ∧ wr.cell? ⟨w.heap.size, 0, none⟩ = some (.slice A n c)) (fun _ v _ => 60 - (intOf v).toNat)
    case atStart => exact ⟨0, Nat.zero_le _, rfl, rfl, HB0.out, bcell (heap_new w _ _) 0⟩
    case round =>
      obtain ⟨k, hk, rfl, rfl, hb, hbox⟩ := hrel
      by_cases hlt : k < 60
      · obtain ⟨b, off, hA, hbl, hc0, hc1, hc2⟩ := (G.out.below hb.out).get k (by show k < ns.length; rw [← HN.out]; omega)
        have WK := Lib.hid (WT.out k (by omega))
        have WB := WL.out k (by omega)
        simp only at hA hc0 hc1 hc2
        generalize weigh (ns.take k) = wt at WK WB ⊢
        obtain ⟨wt2, hwt2⟩ : ∃ x, x = weigh (ns.take (k + 1)) := ⟨_, rfl⟩
        rw [← hwt2] at WK
        have HW2 := Lib.hid hwt2
        clear hwt2
        generalize ns.getD k nd0 = nd at hc0 hc1 hc2 WK
        obtain ⟨kind, txt, kids, ka, kc⟩ := nd
        simp only at hc0 hc1 hc2
        obtain ⟨kl, hkl⟩ : ∃ kl, kl = kids.length := ⟨_, rfl⟩
        have WK2 : Hid (wt2 = wt + (min kl 500 + min txt.size 2000)) := by rw [hkl]; exact WK.out
        rw [← hkl] at hc2
        have HR0 := Lib.hid (Kept.first wr 38 #[.int .i64 0, .string ⟨#[]⟩, .slice none 0 0])
        have HR1 := Lib.hid (HR0.out.set #[.int .i64 kind, .string txt, .slice ka kl kc])
        have r0 := HR1.out.cell 0
        have r1 := HR1.out.cell 1
        have r2 := HR1.out.cell 2
        have hone : (#[Value.int .i64 kind, Value.string txt, Value.slice ka kl kc]).all (·.oneCell') = true := by simp [Value.oneCell']
        have hbx : Hid (w.heap.size < wr.heap.size) := block_lt_of_cell hbox
        subst hA
        have hkI : (k : Int) < 60 := by omega
        clear WK hkl
        go_wp2_with (refine wpList_store_row rfl 38 _ _ rfl wr.heap.size #[.int .i64 kind, .string txt, .slice ka kl kc] rfl rfl 38 _ HR0.out.1 (by kernel_rfl) rfl hone ?_)
        have HBQ : Hid (Below w.heap.size w ((wr.alloc (.cells #[.int .i64 0, .string ⟨#[]⟩, .slice none 0 0] 38)).setRow wr.heap.size #[.int .i64 kind, .string txt, .slice ka kl kc])) := hb.out.trans (HR1.out.2.mono hb.out.size)
        have HCB : Hid (((wr.alloc (.cells #[.int .i64 0, .string ⟨#[]⟩, .slice none 0 0] 38)).setRow wr.heap.size #[.int .i64 kind, .string txt, .slice ka kl kc]).cell? ⟨w.heap.size, 0, none⟩ = some (.slice (some ⟨b, off, none⟩) n c)) := (HR1.out.2.cell (p := ⟨w.heap.size, 0, none⟩) hbx.out).trans hbox
        generalize ((wr.alloc _).setRow _ _) = wq at HR1 r0 r1 r2 HBQ HCB ⊢
        by_cases hx : 500 < kl <;> by_cases hy : 2000 < txt.size
        all_goals
          (have hz0 : (((kl : Nat) : Int) < 500 + 1) ∨ (500 : Int) < (kl : Int) := by omega
           clear hz0
           first
             | (have hxI : (500 : Int) < (kl : Int) := by omega)
             | (have hxI : (kl : Int) ≤ 500 := by omega)
           first
             | (have hyI : (2000 : Int) < (txt.size : Int) := by omega)
             | (have hyI : (txt.size : Int) ≤ 2000 := by omega)
           have HVV : Hid (wt2 = wt + (min kl 500 + min txt.size 2000)) := WK2
           go_wp2_with fail
           go_roundw
           case rel => exact ⟨k + 1, by omega, by (rw [← HW2.out]; have h9 := HVV.out; omega), by go_num, HCB.out⟩
           case measure => simp [intOf]; omega)
      · obtain rfl : k = 60 := by omega
        have HV : Hid (largeN ns = (decide (n ≤ 4096) || decide (400 < weigh (ns.take 60)))) := by
          show _ = _
          unfold largeN
          rw [← HN.out, decide_eq_true h60]
          rfl
        rw [← HR.out] at HV
        generalize weigh (ns.take 60) = wt at HV
        by_cases h2 : n ≤ 4096
        · have h2I : (n : Int) ≤ 4096 := by omega
          rw [decide_eq_true h2] at HV
          go_wp2_with fail
          go_ret
          exact ⟨by rw [HV.out]; rfl, hb.out⟩
        · have h2I : ¬ ((n : Int) ≤ 4096) := by omega
          rw [decide_eq_false h2] at HV
          by_cases h3 : 400 < wt
          · have h3I : (400 : Int) < (wt : Int) := by omega
            rw [decide_eq_true h3] at HV
            go_wp2_with fail
            go_ret
            exact ⟨by rw [HV.out]; rfl, hb.out⟩
          · have h3I : ¬ ((400 : Int) < (wt : Int)) := by omega
            rw [decide_eq_false h3] at HV
            go_wp2_with fail
            go_ret
            exact ⟨by rw [HV.out]; rfl, hb.out⟩
  · have h60I : ¬ ((60 : Int) < (n : Int)) := by omega
    have h60J : (n : Int) ≤ 60 := by omega
    go_enter Tryd.func7, Tryd.ntmps7
    go_wp2_with fail
    go_loopw [3, 14] (fun u v wr => ∃ k : Nat, k ≤ n ∧ u = .int .i64 (weigh (ns.take k) : Nat) ∧ v = .int .i64 (k : Nat) ∧ Hid (Below w.heap.size w wr) ∧ wr.cell? ⟨w.heap.size, 0, none⟩ = some (.slice A n c)) (fun _ v _ => n - (intOf v).toNat)
    case atStart => exact ⟨0, Nat.zero_le _, rfl, rfl, HB0.out, bcell (heap_new w _ _) 0⟩
    case round =>
      obtain ⟨k, hk, rfl, rfl, hb, hbox⟩ := hrel
      by_cases hlt : k < n
      · obtain ⟨b, off, hA, hbl, hc0, hc1, hc2⟩ := (G.out.below hb.out).get k (by show k < ns.length; rw [← HN.out]; omega)
        have WK := Lib.hid (WT.out k (by omega))
        have WB := WL.out k (by omega)
        simp only at hA hc0 hc1 hc2
        generalize weigh (ns.take k) = wt at WK WB ⊢
        obtain ⟨wt2, hwt2⟩ : ∃ x, x = weigh (ns.take (k + 1)) := ⟨_, rfl⟩
        rw [← hwt2] at WK
        have HW2 := Lib.hid hwt2
        clear hwt2
        generalize ns.getD k nd0 = nd at hc0 hc1 hc2 WK
        obtain ⟨kind, txt, kids, ka, kc⟩ := nd
        simp only at hc0 hc1 hc2
        obtain ⟨kl, hkl⟩ : ∃ kl, kl = kids.length := ⟨_, rfl⟩
        have WK2 : Hid (wt2 = wt + (min kl 500 + min txt.size 2000)) := by rw [hkl]; exact WK.out
        rw [← hkl] at hc2
        have HR0 := Lib.hid (Kept.first wr 38 #[.int .i64 0, .string ⟨#[]⟩, .slice none 0 0])
        have HR1 := Lib.hid (HR0.out.set #[.int .i64 kind, .string txt, .slice ka kl kc])
        have r0 := HR1.out.cell 0
        have r1 := HR1.out.cell 1
        have r2 := HR1.out.cell 2
        have hone : (#[Value.int .i64 kind, Value.string txt, Value.slice ka kl kc]).all (·.oneCell') = true := by simp [Value.oneCell']
        have hbx : Hid (w.heap.size < wr.heap.size) := block_lt_of_cell hbox
        subst hA
        have hkI : (k : Int) < (n : Int) := by omega
        clear WK hkl
        go_wp2_with (refine wpList_store_row rfl 38 _ _ rfl wr.heap.size #[.int .i64 kind, .string txt, .slice ka kl kc] rfl rfl 38 _ HR0.out.1 (by kernel_rfl) rfl hone ?_)
        have HBQ : Hid (Below w.heap.size w ((wr.alloc (.cells #[.int .i64 0, .string ⟨#[]⟩, .slice none 0 0] 38)).setRow wr.heap.size #[.int .i64 kind, .string txt, .slice ka kl kc])) := hb.out.trans (HR1.out.2.mono hb.out.size)
        have HCB : Hid (((wr.alloc (.cells #[.int .i64 0, .string ⟨#[]⟩, .slice none 0 0] 38)).setRow wr.heap.size #[.int .i64 kind, .string txt, .slice ka kl kc]).cell? ⟨w.heap.size, 0, none⟩ = some (.slice (some ⟨b, off, none⟩) n c)) := (HR1.out.2.cell (p := ⟨w.heap.size, 0, none⟩) hbx.out).trans hbox
        generalize ((wr.alloc _).setRow _ _) = wq at HR1 r0 r1 r2 HBQ HCB ⊢
        by_cases hx : 500 < kl <;> by_cases hy : 2000 < txt.size
        all_goals
          (have hz0 : (((kl : Nat) : Int) < 500 + 1) ∨ (500 : Int) < (kl : Int) := by omega
           clear hz0
           first
             | (have hxI : (500 : Int) < (kl : Int) := by omega)
             | (have hxI : (kl : Int) ≤ 500 := by omega)
           first
             | (have hyI : (2000 : Int) < (txt.size : Int) := by omega)
             | (have hyI : (txt.size : Int) ≤ 2000 := by omega)
           have HVV : Hid (wt2 = wt + (min kl 500 + min txt.size 2000)) := WK2
           go_wp2_with fail
           go_roundw
           case rel => exact ⟨k + 1, by omega, by (rw [← HW2.out]; have h9 := HVV.out; omega), by go_num, HCB.out⟩
           case measure => simp [intOf]; omega)
      · obtain rfl : k = n := by omega
        have HV : Hid (largeN ns = decide (400 < weigh (ns.take k))) := by
          show _ = _
          unfold largeN
          rw [← HN.out, decide_eq_false h60, HN.out, List.take_length, List.take_of_length_le (by rw [← HN.out]; omega)]
          rfl
        rw [← HR.out] at HV
        generalize weigh (ns.take k) = wt at HV
        by_cases h3 : 400 < wt
        · have h3I : (400 : Int) < (wt : Int) := by omega
          rw [decide_eq_true h3] at HV
          go_wp2_with fail
          go_ret
          exact ⟨by rw [HV.out]; rfl, hb.out⟩
        · have h3I : ¬ ((400 : Int) < (wt : Int)) := by omega
          rw [decide_eq_false h3] at HV
          go_wp2_with fail
          go_ret
          exact ⟨by rw [HV.out]; rfl, hb.out⟩
end Go.Proofs.YtpgncjfmaeiaaaaDoor.Is
