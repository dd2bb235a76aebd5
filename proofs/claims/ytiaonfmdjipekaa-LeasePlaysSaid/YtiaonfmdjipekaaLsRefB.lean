/- The document's queue: without, Until, First. Conditions: rows that lie. -/
import Derived.Test.YtiaonfmdjipekaaLsRef
set_option linter.unusedVariables false
namespace Go.Proofs.Ytiaonfmdjipekaa.Ls
open Go.RowKit Go.Maps
set_option maxRecDepth 100000 in
theorem without_none (w : World) (A : Option Addr) (n c : Nat) : Calls Try.prog 43 #[.slice A n c, .int .i64 (-1)] w fun e w' => e = .returned (.slice A n c) ∧ w = w' := by
  go_enter Try.func43, Try.ntmps43
  go_wp2_with fail
  go_ret
  exact ⟨rfl, rfl⟩
set_option maxRecDepth 100000 in
set_option maxHeartbeats 1600000 in
theorem without_any (w : World) (A : Option Addr) (c : Nat) (l : List Pr) (g : PrsAt w A c l) (k : Nat) (hk : k < l.length) (hl : l.length ≤ 1024) :
    Calls Try.prog 43 #[.slice A l.length c, .int .i64 (k : Nat)] w fun e w' => ∃ A' c', e = .returned (.slice A' (l.length - 1) c') ∧ Hid (PrsAt w' A' c' (l.take k ++ l.drop (k + 1))) ∧ Hid (∀ b off, A' = some ⟨b, off, none⟩ → w.heap.size ≤ b ∧ b < w'.heap.size) ∧ Hid (Below w.heap.size w w') := by
  have hcap := g.cap
  have hA : A = none ∨ ∃ b off, A = some ⟨b, off, none⟩ := g.form.imp (fun h => h.1) id
  have s1 := sl_to A l.length c k (by omega) hA
  have s2 : ∀ W, (Instr.sliceAt 43 (.slice A l.length c) (some (.int .i64 ((k : Int) + 1))) none none).run Try.prog W = .ok (.slice (subA A (k + 1) c) (l.length - (k + 1)) (c - (k + 1))) W := fun W => by
    have := sl_from A l.length c (k + 1) (by omega) W
    rwa [show ((k + 1 : Nat) : Int) = (k : Int) + 1 by omega] at this
  have G1 := Lib.hid (g.take k)
  have G2 := Lib.hid (g.drop (k + 1) (by omega))
  have L1 : Hid ((l.take k).length = k) := by show _ = _; rw [List.length_take]; omega
  have L2 : Hid ((l.drop (k + 1)).length = l.length - (k + 1)) := List.length_drop
  have HK : Hid (k < l.length) := hk
  have HL := Lib.hid hl
  have nk : ¬ ((k : Int) < 0) := by omega
  have hw : IntKind.i64.wrap ((k : Int) + 1) = (k : Int) + 1 := by rw [IntKind.wrap_i64]; omega
  have hw2 : ((k : Int) + 1).toNat = k + 1 := by omega
  have hw3 : (0 : Int) ≤ (k : Int) + 1 := by omega
  have hw4 : (k : Int) + 1 ≤ (l.length : Int) := by omega
  generalize l.take k = M1 at G1 L1 ⊢
  generalize l.drop (k + 1) = M2 at G2 L2 ⊢
  obtain ⟨n, hn⟩ : ∃ n, n = l.length := ⟨_, rfl⟩
  rw [← hn] at s1 s2 L2 HK HL hw4 ⊢
  have N1 : Hid (k ≤ 2000000) := by show _ ≤ _; omega
  have O0 : Hid (w.ownsRow w.heap.size 77 2 (.slice none 0 0) 0 (prVs [])) := World.ownsRow_nil _ _ _ _
  clear g hA hn hk hl hcap
  go_enter Try.func43, Try.ntmps43
  go_wp2_with fail
  go_region_law
    (first
      | (refine step_append_prs (by rfl) _ _ (by rfl) w.heap.size v1 (0 + k) ([] ++ M1) (by rfl) o1.out (subA A (k + 1) c) (n - (k + 1)) (c - (k + 1)) M2 (by rfl) L2.out (G2.out.below b1.out) (by have := N1.out; omega) (by have := HL.out; omega) b1.out.size ?_; intro v2 w2 o2 b2; have O2 := Lib.hid o2; have B2 := Lib.hid (b1.out.trans b2); clear o2 b2)
      | (refine step_append_prs (by rfl) _ _ (by rfl) w.heap.size (.slice none 0 0) 0 [] (by rfl) O0.out A k c M1 (by rfl) L1.out (G1.out.below (Below.refl _ _).drew) (by omega) N1.out (Nat.le_refl _) ?_; intro v1 w1 o1' b1'; have o1 := Lib.hid o1'; have b1 : Hid (Below w.heap.size w w1) := (Below.refl _ _).drew.trans b1'; clear o1' b1')
      | fail)
  have F : Hid (∃ A' c', v2 = .slice A' (n - 1) c' ∧ PrsAt w2 A' c' (M1 ++ M2) ∧ (∀ b off, A' = some ⟨b, off, none⟩ → w.heap.size ≤ b ∧ b < w2.heap.size) ∧ Below w.heap.size w w2) := by
    have hl12 : ([] ++ M1 ++ M2).length = 0 + k + (n - (k + 1)) := by rw [List.length_append, List.nil_append, L1.out, L2.out]; omega
    obtain ⟨A', c', e1, h1, h2⟩ := own_prs O2.out hl12
    rw [show 0 + k + (n - (k + 1)) = n - 1 by have := HK.out; omega] at e1
    exact ⟨A', c', e1, h1, h2, B2.out⟩
  clear O2 B2 o1 b1 G1 G2
  go_wp2_with fail
  go_ret
  obtain ⟨A', c', e1, h1, h2, h3⟩ := F.out
  exact ⟨A', c', by rw [← e1]; rfl, h1, h2, h3⟩
theorem findZ_cases (L : List Pr) (x : Int) : (findZ L x = -1 ∧ x ∉ ids L) ∨ ∃ k, findZ L x = (k : Nat) ∧ k < L.length ∧ (L.getD k (0, 0)).1 = x ∧ x ∈ ids L := by
  unfold findZ
  cases h : L.findIdx? (fun a => a.1 == x) with
  | none =>
    left
    refine ⟨rfl, fun hm => ?_⟩
    obtain ⟨p, hp, e⟩ := List.mem_map.1 hm
    have := List.findIdx?_eq_none_iff.1 h p hp
    simp [e] at this
  | some k =>
    right
    obtain ⟨hk, h1, h2⟩ := List.findIdx?_eq_some_iff_getElem.1 h
    have e : (L.getD k (0, 0)).1 = x := by
      rw [List.getD_eq_getElem?_getD, List.getElem?_eq_getElem hk]
      simpa using h1
    refine ⟨k, rfl, hk, e, List.mem_map.2 ⟨L.getD k (0, 0), ?_, e⟩⟩
    rw [List.getD_eq_getElem?_getD, List.getElem?_eq_getElem hk]
    exact List.getElem_mem hk
theorem cut_remP {L : List Pr} {x : Int} {k : Nat} (hn : (ids L).Nodup) (hk : k < L.length) (h : (L.getD k (0, 0)).1 = x) : L.take k ++ L.drop (k + 1) = remP x L := by
  have e : L = L.take k ++ (L.getD k (0, 0) :: L.drop (k + 1)) := by rw [← drop_at hk, List.take_append_drop]
  have hn2 := hn
  rw [e] at hn2
  unfold ids at hn2
  rw [List.map_append, List.map_cons, List.nodup_append, List.nodup_cons, h] at hn2
  conv => rhs; rw [e]
  unfold remP
  rw [List.filter_append, List.filter_cons]
  have h1 : (L.take k).filter (fun a => a.1 != x) = L.take k := List.filter_eq_self.2 fun a ha => by
    have : a.1 ≠ x := fun e2 => hn2.2.2 a.1 (List.mem_map.2 ⟨a, ha, rfl⟩) x List.mem_cons_self e2
    simpa using this
  have h2 : (L.drop (k + 1)).filter (fun a => a.1 != x) = L.drop (k + 1) := List.filter_eq_self.2 fun a ha => by
    have : a.1 ≠ x := fun e2 => hn2.2.1.1 (List.mem_map.2 ⟨a, ha, e2⟩)
    simpa using this
  rw [h1, h2, h]
  simp
set_option maxRecDepth 100000 in
set_option maxHeartbeats 1600000 in
theorem runtil_any (w : World) (r : Nat) (A : Option Addr) (c : Nat) (L : List Pr) (Q : RQ w r A c L) (x : Int) (hl : L.length ≤ 1024) (hn : (ids L).Nodup) :
    Calls Try.prog 22 #[.pointer (some ⟨r, 0, none⟩), .int .i64 x] w fun e w' => e = .returned (.tuple #[.int .i64 (tilV L x), .bool (hasV L x)]) ∧ w = w' := by
  have c0 := bcell Q.box 0
  have FI := Lib.hid (find_any w r A c L Q x hl)
  rcases findZ_cases L x with ⟨hz, hm⟩ | ⟨k, hz, hk, hx, hm⟩
  · rw [hz] at FI
    have e1 : tilV L x = 0 := by unfold tilV; rw [tilOf_none.2 hm]; rfl
    have e2 : hasV L x = false := by unfold hasV; rw [tilOf_none.2 hm]; rfl
    rw [e1, e2]
    clear Q hz hm e1 e2
    go_enter Try.func22, Try.ntmps22
    go_wp2_with (go_at_call 35; (with_reducible refine FI.out.mono ?_); rintro e w1 ⟨rfl, rfl⟩)
    go_ret2
    exact ⟨rfl, rfl⟩
  · rw [hz] at FI
    obtain ⟨t, ht⟩ : ∃ t, (L.getD k (0, 0)).2 = t := ⟨_, rfl⟩
    have hmem : (x, t) ∈ L := by
      rw [← hx, ← ht, List.getD_eq_getElem?_getD, List.getElem?_eq_getElem hk]
      exact List.getElem_mem hk
    have hto := tilOf_some hn hmem
    have e1 : tilV L x = t := by unfold tilV; rw [hto]; rfl
    have e2 : hasV L x = true := by unfold hasV; rw [hto]; rfl
    rw [e1, e2]
    obtain ⟨b, off, hA, hbl, hc0, hc1⟩ := Q.row.get k hk
    rw [ht] at hc1
    subst hA
    have hkI : (k : Int) < (L.length : Int) := by omega
    generalize L.length = n at c0 hkI
    have nk : ¬ ((k : Int) < 0) := by omega
    have nk2 : (0 : Int) ≤ (k : Int) := by omega
    clear Q hz hm e1 e2 hto hmem hx ht hl hk hc0
    go_enter Try.func22, Try.ntmps22
    go_wp2_with (go_at_call 35; (with_reducible refine FI.out.mono ?_); rintro e w1 ⟨rfl, rfl⟩)
    go_ret2
    exact ⟨rfl, rfl⟩
set_option maxRecDepth 100000 in
set_option maxHeartbeats 1600000 in
theorem rfirst_any (w : World) (r : Nat) (A : Option Addr) (c : Nat) (L : List Pr) (Q : RQ w r A c L) (hl : L.length ≤ 1024) :
    Calls Try.prog 21 #[.pointer (some ⟨r, 0, none⟩)] w fun e w' => e = .returned (.tuple #[.int .i64 (idF L), .int .i64 (tilF L), .bool (someF L)]) ∧ Hid (Below w.heap.size w w') := by
  have c0 := bcell Q.box 0
  cases L with
  | nil =>
    have h1 : idF [] = 0 := rfl
    have h2 : tilF [] = 0 := rfl
    have h3 : someF [] = false := rfl
    rw [h1, h2, h3]
    have c1 : w.cell? ⟨r, 0, none⟩ = some (.slice A 0 c) := c0
    clear Q c0 h1 h2 h3
    go_enter Try.func21, Try.ntmps21
    go_wp2_with fail
    go_ret3
    exact ⟨rfl, Below.refl _ _⟩
  | cons p L =>
    obtain ⟨x, t⟩ := p
    have h1 : idF ((x, t) :: L) = x := rfl
    have h2 : tilF ((x, t) :: L) = t := rfl
    have h3 : someF ((x, t) :: L) = true := rfl
    rw [h1, h2, h3]
    obtain ⟨b, off, hA, hbl, hc0, hc1⟩ := Q.row.get 0 (by simp)
    subst hA
    have hn0 : (((x, t) :: L).length : Int) = (L.length : Int) + 1 := by simp
    have c1 : w.cell? ⟨r, 0, none⟩ = some (.slice (some ⟨b, off, none⟩) (L.length + 1) c) := c0
    have d0 : w.cell? ⟨b, off, none⟩ = some (.int .i64 x) := by simpa using hc0
    have d1 : w.cell? ⟨b, off + 1, none⟩ = some (.int .i64 t) := by simpa using hc1
    generalize L.length = n at c1 hl
    have hp : (0 : Int) < (n : Int) + 1 := by omega
    have hp1 : ((n : Int) + 1 == 0) = false := by simp; omega
    clear Q c0 h1 h2 h3 hc0 hc1 hn0 hbl hl
    go_enter Try.func21, Try.ntmps21
    go_wp2_with fail
    go_quiet (fail)
    go_wp2_with fail
    go_ret3
    exact ⟨rfl, dr (Below.refl _ _) _⟩
end Go.Proofs.Ytiaonfmdjipekaa.Ls
