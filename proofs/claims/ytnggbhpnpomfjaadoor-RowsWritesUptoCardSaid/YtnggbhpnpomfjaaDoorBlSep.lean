/- Walk: what stands between two lines, as Fold tells it. Conditions: the next lines are laid. -/
import Derived.Test.YtnggbhpnpomfjaaDoorBlFold
set_option linter.unusedVariables false
namespace Go.Proofs.YtnggbhpnpomfjaaDoor.Bl
open Go.RowKit
theorem flat_is (s : ByteArray) (b : Bool) (hb : flatL s.data.toList = b) (w : World) : Calls Tryd.prog 108 #[.string s] w fun e w' => e = .returned (.bool b) ∧ w = w' := by subst hb; exact flat_any s w
theorem bl_quiet {P : Program} {f : FuncId} {args : Array Value} {w : World} {n : Nat} {v : Value} (h : Calls P f args (w.drewN n) fun e w' => e = .returned v ∧ w.drewN n = w') : Calls P f args (w.drewN n) fun e w'' => e = .returned v ∧ ∃ m, w'' = w.drewN m :=
  h.mono fun _ _ ⟨he, hm⟩ => ⟨he, n, hm.symm⟩
set_option maxRecDepth 100000 in
set_option maxHeartbeats 3200000 in
theorem foldsep_any (A : Option Addr) (c : Nat) (ss : List ByteArray) (nb ib fb lb k : Nat) (W : World) (g : StrsIn W A c ss) (hl : ss.length ≤ 1000000) (hk : k + 1 < ss.length)
    (c1 : W.cell? ⟨nb, 0, none⟩ = some (.slice (some ⟨ib, 0, none⟩) (ss.length + 1) (ss.length + 1))) (c2 : W.cell? ⟨ib, k + 1, none⟩ = some (.int .i64 (nextN (lns ss) (k + 1) : Nat)))
    (c3 : W.cell? ⟨fb, 0, none⟩ = some (.func (.func 108) #[] #[])) (c4 : W.cell? ⟨lb, 0, none⟩ = some (.slice A ss.length c)) :
    Calls Tryd.prog 110 #[.int .i64 (k : Nat), .int .i64 ((k + 1 : Nat) : Int), .pointer (some ⟨nb, 0, none⟩), .pointer (some ⟨fb, 0, none⟩), .pointer (some ⟨lb, 0, none⟩)] W fun e w' => ∃ s : ByteArray, e = .returned (.string s) ∧ s.data.toList = sepL (lns ss) k ∧ Below W.heap.size W w' := by
  have hnl := nextN_le (L := lns ss) (k := k + 1) (by rw [lns_length]; omega)
  rw [lns_length] at hnl
  have hsep : sepL (lns ss) k = if (flatL ((lns ss).getD k []) && decide (nextN (lns ss) (k + 1) < ss.length) && flatL ((lns ss).getD (nextN (lns ss) (k + 1)) [])) = true then (if nextN (lns ss) (k + 1) = k + 1 then [32] else []) else [10] := by
    unfold sepL; rw [lns_length]
  obtain ⟨n, hn⟩ : ∃ n, nextN (lns ss) (k + 1) = n := ⟨_, rfl⟩
  rw [hn] at c2 hnl hsep
  obtain ⟨b, off, hA, hbl, hc⟩ := g.at_ k (by omega)
  have HAT := lns_at ss k (by omega)
  rw [HAT] at hsep
  obtain ⟨hn1, hn2⟩ := hnl
  have hk1 : (k : Int) < (ss.length : Int) := by omega
  have hk2 : (k : Int) + 1 < (ss.length : Int) + 1 := by omega
  have HGN := Lib.hid (fun h => g.at_ n h)
  have HLN := Lib.hid (fun h => lns_at ss n h)
  clear HAT hn g
  generalize ss.getD k ByteArray.empty = sk at hc hsep
  subst hA
  obtain ⟨fk, hfk⟩ : ∃ q, flatL sk.data.toList = q := ⟨_, rfl⟩
  have FK := Lib.hid (fun w => flat_is sk fk hfk w)
  rw [hfk] at hsep
  clear hfk
  cases fk with
  | false =>
    have HS : Hid (sepL (lns ss) k = [10]) := by show _ = _; rw [hsep]; rfl
    clear hsep hn1 hn2
    go_enter Tryd.func110, Tryd.ntmps110
    go_wp2_with fail
    go_quiet ((go_at_call 108; with_reducible exact bl_quiet (FK.out _)))
    go_wp2_with fail
    go_ret
    exact ⟨_, rfl, HS.out.symm, bl_dr (Below.refl _ _) _⟩
  | true =>
    by_cases hnl : n < ss.length
    · have hnl' : (n : Int) < (ss.length : Int) := by omega
      have hne : ((n : Int) == (ss.length : Int)) = false := beq_eq_false_iff_ne.2 (by omega)
      obtain ⟨b', off', hA', hbl', hc'⟩ := HGN.out hnl
      cases hA'
      have HAT := HLN.out hnl
      rw [HAT, decide_eq_true hnl] at hsep
      generalize ss.getD n ByteArray.empty = sn at hc' hsep
      obtain ⟨fn, hfn⟩ : ∃ q, flatL sn.data.toList = q := ⟨_, rfl⟩
      have FN := Lib.hid (fun w => flat_is sn fn hfn w)
      rw [hfn] at hsep
      clear hfn HAT HGN HLN
      cases fn with
      | false =>
        have HS : Hid (sepL (lns ss) k = [10]) := by show _ = _; rw [hsep]; rfl
        clear hsep hn1 hn2
        go_enter Tryd.func110, Tryd.ntmps110
        go_wp2_with fail
        go_quiet ((first | (go_at_call 108; with_reducible exact bl_quiet (FK.out _)) | (go_at_call 108; with_reducible exact bl_quiet (FN.out _))))
        go_wp2_with fail
        go_ret
        exact ⟨_, rfl, HS.out.symm, bl_dr (Below.refl _ _) _⟩
      | true =>
        by_cases hjk : n = k + 1
        · have HS : Hid (sepL (lns ss) k = [32]) := by show _ = _; rw [hsep]; simp [hjk]
          have hq2 : ((n : Int) == (k : Int) + 1) = true := beq_iff_eq.2 (by omega)
          clear hsep hjk hn1 hn2
          go_enter Tryd.func110, Tryd.ntmps110
          go_wp2_with fail
          go_quiet ((first | (go_at_call 108; with_reducible exact bl_quiet (FK.out _)) | (go_at_call 108; with_reducible exact bl_quiet (FN.out _))))
          go_wp2_with fail
          go_ret
          exact ⟨_, rfl, HS.out.symm, bl_dr (Below.refl _ _) _⟩
        · have HS : Hid (sepL (lns ss) k = []) := by show _ = _; rw [hsep]; simp [hjk]
          have hq2 : ((n : Int) == (k : Int) + 1) = false := beq_eq_false_iff_ne.2 (by omega)
          clear hsep hjk hn1 hn2
          go_enter Tryd.func110, Tryd.ntmps110
          go_wp2_with fail
          go_quiet ((first | (go_at_call 108; with_reducible exact bl_quiet (FK.out _)) | (go_at_call 108; with_reducible exact bl_quiet (FN.out _))))
          go_wp2_with fail
          go_ret
          exact ⟨_, rfl, HS.out.symm, bl_dr (Below.refl _ _) _⟩
    · have hne : ((n : Int) == (ss.length : Int)) = true := beq_iff_eq.2 (by omega)
      have HS : Hid (sepL (lns ss) k = [10]) := by show _ = _; rw [hsep, decide_eq_false hnl]; rfl
      clear hsep hn1 hn2 hnl HGN HLN
      go_enter Tryd.func110, Tryd.ntmps110
      go_wp2_with fail
      go_quiet ((go_at_call 108; with_reducible exact bl_quiet (FK.out _)))
      go_wp2_with fail
      go_ret
      exact ⟨_, rfl, HS.out.symm, bl_dr (Below.refl _ _) _⟩
end Go.Proofs.YtnggbhpnpomfjaaDoor.Bl
