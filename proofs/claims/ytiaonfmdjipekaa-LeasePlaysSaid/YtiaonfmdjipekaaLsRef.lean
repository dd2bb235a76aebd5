/- The document's queue: rows of pairs, appended, cut; find, without. Conditions: rows that lie. -/
import Derived.Test.YtiaonfmdjipekaaLawLsG
import Derived.Laws.AppendOwn
import Derived.Deep.RegionLaw
set_option linter.unusedVariables false
namespace Go.Proofs.Ytiaonfmdjipekaa.Ls
open Go.RowKit Go.Maps
def prVs (l : List Pr) : List Value := l.flatMap fun p => [.int .i64 p.1, .int .i64 p.2]
theorem prVs_len (l : List Pr) : (prVs l).length = l.length * 2 := by
  induction l with
  | nil => rfl
  | cons a l ih =>
    have : prVs (a :: l) = [.int .i64 a.1, .int .i64 a.2] ++ prVs l := rfl
    rw [this, List.length_append, ih]
    simp
    omega
theorem prVs_append (l m : List Pr) : prVs (l ++ m) = prVs l ++ prVs m := by simp [prVs]
theorem prVs_one (l : List Pr) : ∀ u ∈ prVs l, u.oneCell' = true := by
  intro u hu
  unfold prVs at hu
  rw [List.mem_flatMap] at hu
  obtain ⟨p, _, h⟩ := hu
  simp at h
  rcases h with rfl | rfl <;> rfl
theorem prVs_get : ∀ (l : List Pr) (i : Nat), i < l.length → (prVs l)[i * 2]? = some (.int .i64 (l.getD i (0, 0)).1) ∧ (prVs l)[i * 2 + 1]? = some (.int .i64 (l.getD i (0, 0)).2)
  | [], i, h => absurd h (Nat.not_lt_zero _)
  | a :: l, 0, _ => ⟨rfl, rfl⟩
  | a :: l, i + 1, h => by
    have ih := prVs_get l i (by simpa using h)
    have e : prVs (a :: l) = .int .i64 a.1 :: .int .i64 a.2 :: prVs l := rfl
    have e1 : (i + 1) * 2 = i * 2 + 2 := by omega
    have e2 : (i + 1) * 2 + 1 = (i * 2 + 1) + 2 := by omega
    rw [e, e1, show i * 2 + 2 + 1 = (i * 2 + 1) + 2 by omega, List.getElem?_cons_succ, List.getElem?_cons_succ, List.getElem?_cons_succ, List.getElem?_cons_succ]
    simpa [List.getD_eq_getElem?_getD] using ih
/-- a row of pairs lies -/
structure PrsAt (w : World) (A : Option Addr) (c : Nat) (l : List Pr) : Prop where
  get : ∀ i, i < l.length → ∃ b off, A = some ⟨b, off, none⟩ ∧ b < w.heap.size ∧ w.cell? ⟨b, off + i * 2, none⟩ = some (.int .i64 (l.getD i (0, 0)).1) ∧ w.cell? ⟨b, off + i * 2 + 1, none⟩ = some (.int .i64 (l.getD i (0, 0)).2)
  cap : l.length ≤ c
  form : (A = none ∧ c = 0) ∨ ∃ b off, A = some ⟨b, off, none⟩
theorem addr_add (b off i : Nat) : (⟨b, off, none⟩ : Addr).add i = ⟨b, off + i, none⟩ := by unfold Addr.add; split <;> simp_all
theorem PrsAt.below {w w' : World} {A : Option Addr} {c : Nat} {l : List Pr} (h : PrsAt w A c l) (hb : Below w.heap.size w w') : PrsAt w' A c l :=
  ⟨fun i hi => by
    obtain ⟨b, off, h1, h2, h3, h4⟩ := h.get i hi
    exact ⟨b, off, h1, Nat.lt_of_lt_of_le h2 hb.size, (hb.cell (p := ⟨b, _, none⟩) h2).trans h3, (hb.cell (p := ⟨b, _, none⟩) h2).trans h4⟩, h.cap, h.form⟩
theorem PrsAt.kept {w w' : World} {A : Option Addr} {c : Nat} {l : List Pr} (h : PrsAt w A c l) (hs : w.heap.size ≤ w'.heap.size) (hk : ∀ b off, A = some ⟨b, off, none⟩ → b < w.heap.size → w'.heap[b]? = w.heap[b]?) : PrsAt w' A c l :=
  ⟨fun i hi => by
    obtain ⟨b, off, h1, h2, h3, h4⟩ := h.get i hi
    have e := hk b off h1 h2
    exact ⟨b, off, h1, Nat.lt_of_lt_of_le h2 hs, (World.cell?_of_block (a := ⟨b, _, none⟩) e).trans h3, (World.cell?_of_block (a := ⟨b, _, none⟩) e).trans h4⟩, h.cap, h.form⟩
theorem own_prs {w : World} {base n : Nat} {v : Value} {l : List Pr} (h : w.ownsRow base 77 2 v n (prVs l)) (hn : l.length = n) : ∃ A c, v = .slice A n c ∧ PrsAt w A c l ∧ (∀ b off, A = some ⟨b, off, none⟩ → base ≤ b ∧ b < w.heap.size) := by
  rcases h.2 with ⟨rfl, h0⟩ | ⟨g, cap, cur, rfl, hge, hh, hnc, hcm, hcs, htk⟩
  · exact ⟨none, 0, by rw [h0], ⟨fun i hi => by omega, by omega, Or.inl ⟨rfl, rfl⟩⟩, fun b off e => by cases e⟩
  · refine ⟨_, cap, rfl, ⟨fun i hi => ?_, by omega, Or.inr ⟨g, 0, rfl⟩⟩, fun b off e => by cases e; exact ⟨hge, blt hh⟩⟩
    have e : ∀ j, j < n * 2 → w.cell? ⟨g, j, none⟩ = (prVs l)[j]? := fun j hj => by
      rw [bcell hh, ← Array.getElem?_toList, ← htk, List.getElem?_take, if_pos hj]
    obtain ⟨h1, h2⟩ := prVs_get l i hi
    exact ⟨g, 0, rfl, blt hh, by rw [Nat.zero_add, e _ (by omega), h1], by rw [Nat.zero_add, e _ (by omega), h2]⟩
theorem infoPr : (Try.prog.info? 77).map (fun i => (i.zero, i.size, i.bytes)) = some (some (.agg #[.int .i64 0, .int .i64 0]), 2, 16) := by kernel_rfl
theorem PrsAt.news {w : World} {A : Option Addr} {c : Nat} {l : List Pr} (h : PrsAt w A c l) {ad : Addr} (hA : A = some ad) : ∀ j u, (prVs l)[j]? = some u → w.cell? (ad.add j) = some u := by
  intro j u hj
  have hjl : j < l.length * 2 := by rw [← prVs_len]; exact (List.getElem?_eq_some_iff.1 hj).1
  obtain ⟨b, off, h1, h2, h3, h4⟩ := h.get (j / 2) (by omega)
  rw [hA] at h1
  cases h1
  obtain ⟨e1, e2⟩ := prVs_get l (j / 2) (by omega)
  rw [addr_add]
  by_cases hp : j % 2 = 0
  · have : j = j / 2 * 2 := by omega
    rw [← this] at e1
    rw [e1] at hj
    rw [show off + j = off + j / 2 * 2 by omega, h3]
    exact hj
  · have : j = j / 2 * 2 + 1 := by omega
    rw [← this] at e2
    rw [e2] at hj
    rw [show off + j = off + j / 2 * 2 + 1 by omega, h4]
    exact hj
/-- pairs appended to a row of the call's own, whatever they are -/
theorem wp_append_prs {w : World} {o : Oper} {a : Act} {K : Act → World → Prop} {Q : Exit → Act → World → Prop} (s x : Operand) (ho : o.op = .call { callee := .builtin .append, args := #[s, x], argTypes := #[43, 43] })
    (base : Nat) (v : Value) (n : Nat) (L : List Pr) (hs : a.eval s = v) (hown : w.ownsRow base 77 2 v n (prVs L)) (A : Option Addr) (m c : Nat) (d : List Pr) (hx : a.eval x = .slice A m c) (hm : d.length = m) (g : PrsAt w A c d)
    (hn : n ≤ 2000000) (hd : m ≤ 2000000) (hbase : base ≤ w.heap.size)
    (h : ∀ v' w', w'.ownsRow base 77 2 v' (n + m) (prVs (L ++ d)) → Below base w w' → K (a.put o.dst v') w') : o.wp Try.prog a w K Q := by
  obtain ⟨i0, hi, hz0, hz1, hz2⟩ := info_parts infoPr
  cases A with
  | none =>
    have hd0 : d = [] := by
      cases d with
      | nil => rfl
      | cons p d =>
        obtain ⟨b, off, e, _⟩ := g.get 0 (by simp)
        cases e
    subst hd0
    obtain rfl : m = 0 := by simpa using hm.symm
    obtain rfl : c = 0 := by
      rcases g.form with h | ⟨b, off, h⟩
      · exact h.2
      · cases h
    have hrun := run_append_owned_none (P := Try.prog) (w := w) base 43 o.type 77 i0 2 Try.underlying43 hi v n (prVs L) hown
    unfold Oper.wp execOp
    simp only [ho, resolve, invoke, builtin, Sem.run_bind, Sem.run_pure, Result.andThen_ok, List.map_toArray, List.map_cons, List.map_nil, hs, hx, hrun]
    exact h v w (by simpa using hown) (Below.refl _ _)
  | some ad =>
    refine wp_append_own w s x 43 ho base 77 i0 (.agg #[.int .i64 0, .int .i64 0]) 2 16 Try.underlying43 hi hz0 hz1 hz2 rfl (by decide) v n (prVs L) hs hown ad m c (prVs d) hx (by rw [prVs_len, hm]) (g.news rfl) (prVs_one d) (by unfold maxLen; omega) (by omega) hbase ?_
    intro v' w' h1 h2 _
    refine h v' w' ?_ ((Below.refl _ _).grown h2 hbase (own_ge hown))
    rw [prVs_append]
    exact h1
theorem step_append_prs {w : World} {ops : Array Oper} {o : Oper} {a : Act} {K : Act → World → Prop} {Q : Exit → Act → World → Prop} {E : Prop} (hgd : o.guard = none) (s x : Operand) (ho : o.op = .call { callee := .builtin .append, args := #[s, x], argTypes := #[43, 43] })
    (base : Nat) (v : Value) (n : Nat) (L : List Pr) (hs : a.eval s = v) (hown : w.ownsRow base 77 2 v n (prVs L)) (A : Option Addr) (m c : Nat) (d : List Pr) (hx : a.eval x = .slice A m c) (hm : d.length = m) (g : PrsAt w A c d)
    (hn : n ≤ 2000000) (hd : m ≤ 2000000) (hbase : base ≤ w.heap.size)
    (h : ∀ v' w', w'.ownsRow base 77 2 v' (n + m) (prVs (L ++ d)) → Below base w w' → K (a.put o.dst v') w') : if Region.wanted o (yielded ops a.tmps) = true then Oper.wp Try.prog o a w K Q else E := by
  rw [if_pos (by simp [Region.wanted, hgd])]
  exact wp_append_prs s x ho base v n L hs hown A m c d hx hm g hn hd hbase h
/-- where a row begins that begins k places on -/
def subA (A : Option Addr) (k c : Nat) : Option Addr := if c = k then A else A.map (·.add (k * 2))
theorem sl_to (A : Option Addr) (len c k : Nat) (hk : k ≤ c) (hA : A = none ∨ ∃ b off, A = some ⟨b, off, none⟩) (w : World) :
    (Instr.sliceAt 43 (.slice A len c) none (some (.int .i64 (k : Int))) none).run Try.prog w = .ok (.slice A k c) w := by
  have ht : Try.prog.underlying 43 = some (.slice (Try.prog.elem 43)) := by kernel_rfl
  have hs : (sizeOf (Try.prog.elem 43)).run Try.prog w = .ok 2 w := by kernel_rfl
  rw [run_sliceAt_slice w _ _ _ _ _ ht, run_slice_h w _ A len c ht .i64 (k : Int) (by omega) (by omega), hs]
  rcases hA with rfl | ⟨b, off, rfl⟩ <;> simp [sliced, Result.andThen, addr_add]
theorem sl_from (A : Option Addr) (len c k : Nat) (hk : k ≤ len) (w : World) :
    (Instr.sliceAt 43 (.slice A len c) (some (.int .i64 (k : Int))) none none).run Try.prog w = .ok (.slice (subA A k c) (len - k) (c - k)) w := by
  have ht : Try.prog.underlying 43 = some (.slice (Try.prog.elem 43)) := by kernel_rfl
  have hs : (sizeOf (Try.prog.elem 43)).run Try.prog w = .ok 2 w := by kernel_rfl
  rw [run_sliceAt_slice w _ _ _ _ _ ht, run_slice_l w _ A len c ht .i64 (k : Int) (by omega) (by omega), hs]
  simp [sliced, subA, Result.andThen]
theorem PrsAt.take {w : World} {A : Option Addr} {c : Nat} {l : List Pr} (h : PrsAt w A c l) (k : Nat) : PrsAt w A c (l.take k) :=
  ⟨fun i hi => by
    rw [List.length_take] at hi
    obtain ⟨b, off, h1, h2, h3, h4⟩ := h.get i (by omega)
    have e : (l.take k).getD i (0, 0) = l.getD i (0, 0) := by rw [List.getD_eq_getElem?_getD, List.getElem?_take, if_pos (by omega), ← List.getD_eq_getElem?_getD]
    rw [e]
    exact ⟨b, off, h1, h2, h3, h4⟩, by rw [List.length_take]; have := h.cap; omega, h.form⟩
theorem PrsAt.drop {w : World} {A : Option Addr} {c : Nat} {l : List Pr} (h : PrsAt w A c l) (k : Nat) (hk : k ≤ l.length) : PrsAt w (subA A k c) (c - k) (l.drop k) := by
  have hcap := h.cap
  refine ⟨fun i hi => ?_, by rw [List.length_drop]; omega, ?_⟩
  · rw [List.length_drop] at hi
    obtain ⟨b, off, h1, h2, h3, h4⟩ := h.get (k + i) (by omega)
    have e : (l.drop k).getD i (0, 0) = l.getD (k + i) (0, 0) := by rw [List.getD_eq_getElem?_getD, List.getElem?_drop, ← List.getD_eq_getElem?_getD]
    refine ⟨b, off + k * 2, ?_, h2, ?_, ?_⟩
    · unfold subA
      rw [if_neg (by omega), h1]
      simp [addr_add]
    · rw [e, show off + k * 2 + i * 2 = off + (k + i) * 2 by omega]; exact h3
    · rw [e, show off + k * 2 + i * 2 + 1 = off + (k + i) * 2 + 1 by omega]; exact h4
  · unfold subA
    rcases h.form with ⟨rfl, rfl⟩ | ⟨b, off, rfl⟩
    · left
      exact ⟨by split <;> rfl, by omega⟩
    · right
      split
      · exact ⟨b, off, rfl⟩
      · exact ⟨b, off + k * 2, by simp [addr_add]⟩
/-- the document's queue lies at r -/
structure RQ (w : World) (r : Nat) (A : Option Addr) (c : Nat) (L : List Pr) : Prop where
  box : w.heap[r]? = some (.cells #[.slice A L.length c] 45 (0, 0))
  row : PrsAt w A c L
  apart : ∀ b off, A = some ⟨b, off, none⟩ → b ≠ r
theorem RQ.below {w w' : World} {r : Nat} {A : Option Addr} {c : Nat} {L : List Pr} (h : RQ w r A c L) (hb : Below w.heap.size w w') : RQ w' r A c L := ⟨(hb.block _ (blt h.box)).trans h.box, h.row.below hb, h.apart⟩
def findZ (L : List Pr) (x : Int) : Int := match L.findIdx? (fun a => a.1 == x) with
  | some k => (k : Nat)
  | none => -1
theorem findZ_some {L : List Pr} {x : Int} {k : Nat} (hk : k < L.length) (h : (L.getD k (0, 0)).1 = x) (hn : ∀ j, j < k → (L.getD j (0, 0)).1 ≠ x) : findZ L x = (k : Nat) := by
  have : L.findIdx? (fun a => a.1 == x) = some k := by
    rw [List.findIdx?_eq_some_iff_getElem]
    refine ⟨hk, ?_, fun j hj => ?_⟩
    · rw [List.getD_eq_getElem?_getD, List.getElem?_eq_getElem hk] at h
      simpa using h
    · have := hn j hj
      rw [List.getD_eq_getElem?_getD, List.getElem?_eq_getElem (by omega)] at this
      simpa using this
  unfold findZ
  rw [this]
theorem findZ_none {L : List Pr} {x : Int} (hn : ∀ j, j < L.length → (L.getD j (0, 0)).1 ≠ x) : findZ L x = -1 := by
  have : L.findIdx? (fun a => a.1 == x) = none := by
    rw [List.findIdx?_eq_none_iff]
    intro a ha
    obtain ⟨i, hi, rfl⟩ := List.getElem_of_mem ha
    have := hn i hi
    rw [List.getD_eq_getElem?_getD, List.getElem?_eq_getElem hi] at this
    simpa using this
  unfold findZ
  rw [this]
set_option maxRecDepth 100000 in
set_option maxHeartbeats 1600000 in
theorem find_any (w : World) (r : Nat) (A : Option Addr) (c : Nat) (L : List Pr) (Q : RQ w r A c L) (x : Int) (hl : L.length ≤ 1024) :
    Calls Try.prog 35 #[.pointer (some ⟨r, 0, none⟩), .int .i64 x] w fun e w' => e = .returned (.int .i64 (findZ L x)) ∧ w = w' := by
  have c0 := bcell Q.box 0
  have QH := Lib.hid Q
  have YES : Hid (∀ k, k < L.length → (L.getD k (0, 0)).1 = x → (∀ j, j < k → (L.getD j (0, 0)).1 ≠ x) → findZ L x = (k : Nat)) := fun k => findZ_some
  have NO : Hid ((∀ j, j < L.length → (L.getD j (0, 0)).1 ≠ x) → findZ L x = -1) := findZ_none
  obtain ⟨R, hR⟩ : ∃ R, R = findZ L x := ⟨_, rfl⟩
  rw [← hR] at YES NO ⊢
  obtain ⟨n, hn⟩ : ∃ n, n = L.length := ⟨_, rfl⟩
  rw [← hn] at c0 hl YES NO
  have HN := Lib.hid hn
  clear Q hR hn
  go_enter Try.func35, Try.ntmps35
  go_wp2_with fail
  go_loop [5] (fun v => ∃ k : Nat, k ≤ n ∧ v = .int .i64 (k : Nat) ∧ Hid (∀ j, j < k → (L.getD j (0, 0)).1 ≠ x)) (fun v => n - (intOf v).toNat)
  case atStart => exact ⟨0, Nat.zero_le _, rfl, fun j hj => absurd hj (Nat.not_lt_zero _)⟩
  case round =>
    obtain ⟨k, hk, rfl, hno⟩ := hrel
    by_cases hlt : k < n
    · obtain ⟨b, off, hA, hbl, hc0, hc1⟩ := QH.out.row.get k (by rw [← HN.out]; exact hlt)
      have YK := Lib.hid (YES.out k hlt)
      have NX : Hid ((L.getD k (0, 0)).1 ≠ x → ∀ j, j < k + 1 → (L.getD j (0, 0)).1 ≠ x) := fun h j hj => by
        rcases Nat.lt_or_ge j k with h1 | h1
        · exact hno.out j h1
        · have : j = k := by omega
          subst this; exact h
      have HNO := hno
      subst hA
      generalize (L.getD k (0, 0)).1 = i at hc0 YK NX
      have hkI : (k : Int) < (n : Int) := by omega
      clear hno
      by_cases hix : i = x
      · have HV := Lib.hid (YK.out hix HNO.out)
        have hq : (i == x) = true := by simp [hix]
        clear YK NX hix
        go_wp2_with fail
        go_ret
        exact ⟨by rw [HV.out]; rfl, rfl⟩
      · have HX := Lib.hid (NX.out hix)
        have hq : (i == x) = false := by simp [hix]
        clear YK NX hix
        go_wp2_with fail
        go_round
        case rel => exact ⟨k + 1, by omega, by go_num, HX.out⟩
        case measure => simp [intOf]; omega
    · obtain rfl : k = n := by omega
      have HV := Lib.hid (NO.out hno.out)
      go_wp2_with fail
      go_ret
      exact ⟨by rw [HV.out]; rfl, rfl⟩
end Go.Proofs.Ytiaonfmdjipekaa.Ls
