/- Walks: the law's does, short. Conditions: the queue lies as Que says. -/
import Derived.Test.YtiaonfmdjipekaaLsAll
import Derived.Test.YtiaonfmdjipekaaLsOpen
set_option linter.unusedVariables false
namespace Go.Proofs.Ytiaonfmdjipekaa.Ls
open Go.RowKit Go.Maps
def doesL (L : List Pr) (a : AV) : List Int := if a.k % 4 = 3 then dueL L a.til else []
def doesR (L : List Pr) (a : AV) : List Pr := if a.k % 4 = 2 then remP a.id L else if a.k % 4 = 3 then dueN L a.til else putR L a.id a.til
def doesC (L : List Pr) (a : AV) : Int := if a.k % 4 = 2 then dropC L a.id else if a.k % 4 = 3 then 0 else putC L a.id
theorem DueSt.of_nil {w w' : World} {B : Nat → Prop} {q N : Nat} {M : List Pr} (hq : Que w' B q M N) (hk : Keep B w w') (ho : ∀ k, B k → k < w.heap.size) : DueSt w B q N (.slice none 0 0) [] M w' :=
  ⟨(DueSt.start hq).que, World.ownsRow_nil _ _ _ _, hk, fun g hg => by simp [Value.ownBlock] at hg, ho⟩
theorem DueSt.more {w w' : World} {B : Nat → Prop} {q N N' : Nat} {v : Value} {l : List Int} {M : List Pr} (h : DueSt w B q N v l M w') (hN : N ≤ N') : DueSt w B q N' v l M w' := ⟨h.que.mono hN, h.row, h.keep, h.new, h.old⟩
theorem DueSt.back {w0 w w' : World} {B : Nat → Prop} {q N : Nat} {v : Value} {l : List Int} {M : List Pr} (h : DueSt w B q N v l M w') (hb : Below w0.heap.size w0 w) (ho : ∀ k, B k → k < w0.heap.size) : DueSt w0 B q N v l M w' :=
  ⟨h.que, h.row, (Turn.of_below hb).trans h.keep, fun g hg => Nat.le_trans hb.size (h.new g hg), ho⟩
set_option maxRecDepth 100000 in
set_option maxHeartbeats 1600000 in
theorem does_any (w : World) (B : Nat → Prop) (q : Nat) (L : List Pr) (N : Nat) (Q : Que w B q L N) (hN : N < 1000000) (a : AV) (ha : a.ok) :
    Calls Try.prog 11 #[.pointer (some ⟨q, 0, none⟩), a.val] w fun e w' => ∃ v, e = .returned (.tuple #[v, .int .i64 (doesC L a)]) ∧ Hid (DueSt w B q (N + 1) v (doesL L a) (doesR L a) w') := by
  obtain ⟨k, x, t⟩ := a
  obtain ⟨⟨k0, k1⟩, hx, ht⟩ := ha
  simp only at k0 k1 hx ht
  have BX : Hid (∀ o, Below w.heap.size w (w.alloc o)) := fun o => (Below.refl _ w).alloc (Nat.le_refl _) o
  have QO := Lib.hid Q.old
  have PU : Hid (∀ o, Calls Try.prog 17 #[.pointer (some ⟨q, 0, none⟩), .int .i64 x, .int .i64 t] (w.alloc o) fun e w' => e = .returned (.int .i64 (putC L x)) ∧ Hid (DueSt w B q (N + 1) (.slice none 0 0) [] (putR L x t) w')) := fun o =>
    (put_any (w.alloc o) B q L N (Q.below (BX.out o)) (by omega) x t hx ht).mono fun e w' ⟨h1, h2, h3⟩ => ⟨h1, DueSt.of_nil h2.out ((Turn.of_below (BX.out o)).trans h3.out) QO.out⟩
  have DR : Hid (∀ o, Calls Try.prog 14 #[.pointer (some ⟨q, 0, none⟩), .int .i64 x] (w.alloc o) fun e w' => e = .returned (.int .i64 (dropC L x)) ∧ Hid (DueSt w B q (N + 1) (.slice none 0 0) [] (remP x L) w')) := fun o =>
    (drop_any (w.alloc o) B q L N (Q.below (BX.out o)) x hx).mono fun e w' ⟨h1, h2, h3⟩ => ⟨h1, DueSt.of_nil (h2.out.mono (Nat.le_succ N)) ((Turn.of_below (BX.out o)).trans h3.out) QO.out⟩
  have DU : Hid (∀ o, Calls Try.prog 15 #[.pointer (some ⟨q, 0, none⟩), .int .i64 t] (w.alloc o) fun e w' => ∃ v, e = .returned v ∧ Hid (DueSt w B q (N + 1) v (dueL L t) (dueN L t) w')) := fun o =>
    (due_any (w.alloc o) B q L N (Q.below (BX.out o)) t ht).mono fun e w' ⟨v, h1, h2⟩ => ⟨v, h1, (h2.out.back (BX.out o) QO.out).more (Nat.le_succ N)⟩
  have hm : Int.tmod k 4 = k % 4 := by rw [Int.tmod_eq_emod_of_nonneg k0]
  obtain ⟨r, hr⟩ : ∃ r, r = k % 4 := ⟨_, rfl⟩
  rw [← hr] at hm
  have HV : Hid (doesL L ⟨k, x, t⟩ = (if r = 3 then dueL L t else []) ∧ doesR L ⟨k, x, t⟩ = (if r = 2 then remP x L else if r = 3 then dueN L t else putR L x t) ∧ doesC L ⟨k, x, t⟩ = (if r = 2 then dropC L x else if r = 3 then 0 else putC L x)) := by
    unfold doesL doesR doesC
    rw [hr]
    exact ⟨rfl, rfl, rfl⟩
  rw [HV.out.1, HV.out.2.1, HV.out.2.2]
  have hr4 : r = 0 ∨ r = 1 ∨ r = 2 ∨ r = 3 := by omega
  clear HV Q hr
  unfold AV.val
  rcases hr4 with rfl | rfl | rfl | rfl
  · simp only [show ¬ ((0 : Int) = 2) by omega, show ¬ ((0 : Int) = 3) by omega, if_false]
    go_enter Try.func11, Try.ntmps11
    go_wp2_with (go_at_call 17; (with_reducible refine (PU.out _).mono ?_); rintro e w1 ⟨rfl, P1⟩)
    go_ret2
    exact ⟨_, rfl, P1⟩
  · simp only [show ¬ ((1 : Int) = 2) by omega, show ¬ ((1 : Int) = 3) by omega, if_false]
    go_enter Try.func11, Try.ntmps11
    go_wp2_with (go_at_call 17; (with_reducible refine (PU.out _).mono ?_); rintro e w1 ⟨rfl, P1⟩)
    go_ret2
    exact ⟨_, rfl, P1⟩
  · simp only [show ¬ ((2 : Int) = 3) by omega, if_true, if_false]
    go_enter Try.func11, Try.ntmps11
    go_wp2_with (go_at_call 14; (with_reducible refine (DR.out _).mono ?_); rintro e w1 ⟨rfl, P1⟩)
    go_ret2
    exact ⟨_, rfl, P1⟩
  · simp only [show ¬ ((3 : Int) = 2) by omega, if_true, if_false]
    go_enter Try.func11, Try.ntmps11
    go_wp2_with (go_at_call 15; (with_reducible refine (DU.out _).mono ?_); rintro e w1 ⟨v, rfl, P1⟩)
    go_ret2
    exact ⟨_, rfl, P1⟩
set_option maxRecDepth 100000 in
theorem short_any (A : Option Addr) (n c : Nat) (w : World) (hn : n ≤ c) : Calls Try.prog 10 #[.slice A n c] w fun e w' => e = .returned (.slice A (min n 300) c) ∧ w = w' := by
  have HM : Hid ((min (n : Int) 300).toNat = min n 300) := by show _ = _; omega
  have hb1 : (min (n : Int) 300).toNat ≤ c := by omega
  have hb2 : 0 ≤ min (n : Int) 300 := by omega
  have hb3 : min (n : Int) 300 ≤ (c : Int) := by omega
  go_enter Try.func10, Try.ntmps10
  go_wp2_with fail
  go_ret
  exact ⟨by rw [← HM.out]; rfl, rfl⟩
theorem setRow_below (w : World) {B g : Nat} (h : B ≤ g) (cs : Array Value) : Below B w (w.setRow g cs) :=
  ⟨rfl, rfl, rfl, by simp [World.setRow], fun k hk => by simp only [World.setRow, Array.getElem?_modify]; rw [if_neg (by omega)]⟩
/-- a block that was laid last -/
def Kept (w w2 : World) (t : TypeId) (cs : Array Value) : Prop := w2.heap[w.heap.size]? = some (.cells cs t (0, 0)) ∧ Below w.heap.size w w2
theorem Kept.first (w : World) (t : TypeId) (cs : Array Value) : Kept w (w.alloc (.cells cs t)) t cs := ⟨heap_new w cs t, (Below.refl _ w).alloc (Nat.le_refl _) _⟩
theorem Kept.set {w w2 : World} {t : TypeId} {cs : Array Value} (h : Kept w w2 t cs) (ds : Array Value) : Kept w (w2.setRow w.heap.size ds) t ds := ⟨setRow_heap _ _ _ _ _ _ h.1, h.2.trans (setRow_below w2 (Nat.le_refl _) ds)⟩
theorem Kept.cell {w w2 : World} {t : TypeId} {cs : Array Value} (h : Kept w w2 t cs) (i : Nat) : w2.cell? ⟨w.heap.size, i, none⟩ = cs[i]? := bcell h.1 i
theorem av_one (k x t : Int) : (#[Value.int .u8 k, Value.int .i64 x, Value.int .i64 t]).all (·.oneCell') = true := by simp [Value.oneCell']
/-- what a queue has behind k calls -/
def runL (acts : List AV) (k : Nat) : List Pr := (acts.take k).foldl doesR []
theorem runL_succ {acts : List AV} {k : Nat} (h : k < acts.length) : runL acts (k + 1) = doesR (runL acts k) (acts.getD k av0) := by
  unfold runL
  rw [List.take_succ_eq_append_getElem h, List.foldl_append, List.getD_eq_getElem?_getD, List.getElem?_eq_getElem h]
  rfl
theorem ActsIn.below {w w' : World} {A : Option Addr} {cap : Nat} {l : List AV} (g : ActsIn w A cap l) (hb : Below w.heap.size w w') : ActsIn w' A cap l :=
  ⟨fun i hi => by
    obtain ⟨b, off, h1, h2, h3, h4, h5⟩ := g.at_ i hi
    exact ⟨b, off, h1, Nat.lt_of_lt_of_le h2 hb.size, (hb.cell (p := ⟨b, _, none⟩) h2).trans h3, (hb.cell (p := ⟨b, _, none⟩) h2).trans h4, (hb.cell (p := ⟨b, _, none⟩) h2).trans h5⟩, g.ok, g.cap_⟩
structure RunSt (w : World) (q : Nat) (acts : List AV) (k : Nat) (wr : World) : Prop where
  que : Que wr (fun b => b < w.heap.size) q (runL acts k) k
  bel : Below w.heap.size w wr
theorem keep_below {w a b : World} (h : Keep (fun k => k < w.heap.size) a b) (hs : w.heap.size ≤ a.heap.size) : Below w.heap.size a b := h.below hs fun k hk => by omega
theorem DueSt.base {w w' : World} {B : Nat → Prop} {q N : Nat} {v : Value} {l : List Int} {M : List Pr} (h : DueSt w B q N v l M w') : Que w' B q M N :=
  h.que.other (Turn.refl _ _) (fun k hk => Or.inl (Or.inl hk)) (fun k hk => h.que.old k (Or.inl hk))
theorem RunSt.does {w : World} {q : Nat} {acts : List AV} {k : Nat} {wr : World} (S : RunSt w q acts k wr) (hk : k < acts.length) (hl : k < 1000000) (ha : (acts.getD k av0).ok) (V : World) (hV : Below wr.heap.size wr V) :
    Calls Try.prog 11 #[.pointer (some ⟨q, 0, none⟩), (acts.getD k av0).val] V fun e w' => ∃ v c, e = .returned (.tuple #[v, c]) ∧ Hid (RunSt w q acts (k + 1) w') := by
  refine (does_any V _ q _ k (S.que.below hV) hl _ ha).mono ?_
  rintro e w' ⟨v, rfl, D⟩
  refine ⟨v, _, rfl, ?_, ?_⟩
  · rw [runL_succ hk]; exact D.out.base
  · have h1 := S.bel.trans (hV.mono S.bel.size)
    exact h1.trans (keep_below D.out.keep h1.size)
end Go.Proofs.Ytiaonfmdjipekaa.Ls
