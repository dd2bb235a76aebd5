/- Walk: the closure that strings.Lines hands back: it calls yield with each piece of the text. Conditions: the text is no longer than 2000000 bytes; no round says 'no more'. -/
import Derived.Test.YtnggbhpnpomfjaaDoorRfLaw
import Derived.Test.YtnggbhpnpomfjaaDoorRwPure
import Derived.Test.YtnggbhpnpomfjaaDoorBlAt
set_option linter.unusedVariables false
namespace Go.Proofs.YtnggbhpnpomfjaaDoor.Rw
open Go.RowKit Go.Shelf Bl
attribute [local go_sem] Oper.semAt_some
theorem slice_to_any (x : ByteArray) (j : Nat) (h : j ≤ x.size) (W : World) : (Instr.sliceAt 9 (.string x) none (some (.int .i64 (j : Nat))) none).run Tryd.prog W = .ok (.string ⟨(x.data.toList.take j).toArray⟩) W := by
  rw [run_sliceAt_string W _ _ _ _ _ Tryd.underlying9]
  have hb1 : (Instr.sliceBound (.int .i64 (j : Nat)) x.size .sliceAlen).run Tryd.prog W = .ok j W := run_sliceBound _ .i64 (j : Nat) x.size .sliceAlen (by omega) (by omega)
  have hex : x.extract 0 j = ⟨(x.data.toList.take j).toArray⟩ := by
    refine bl_str_ext2 ?_
    rw [Lib.extract_data]
    simp
  simp [Instr.slice, run_underlying Tryd.underlying9, Instr.sliceBounds, hb1, hex]
noncomputable def boxLen (Bs : Nat) (W : World) : Nat := match W.cell? ⟨Bs, 0, none⟩ with
  | some (.string s) => s.size
  | _ => 0
set_option maxRecDepth 100000 in
set_option maxHeartbeats 1600000 in
theorem lines1_any (l Bs : Nat) (J : List ByteArray → World → Prop) (s : ByteArray) (hs : s.size ≤ 2000000)
    (hJs : ∀ pre W v u, J pre W → Boxed W Bs 9 (.string u) → J pre (W.setCell ⟨Bs, 0, none⟩ (.string v))) (hJd : ∀ pre W, J pre W → J pre W.drew)
    (hY : ∀ pre (x : ByteArray) W, J pre W → (pre.length < 2000000 ∧ x.size ≤ 2000000) → YieldAt Fence.wide 3 Tryd.prog l #[.string x] W fun e W' => e = .returned (.bool true) ∧ J (pre ++ [x]) W' ∧ (∀ u, Boxed W Bs 9 (.string u) → Boxed W' Bs 9 (.string u)))
    (W : World) (hB : Boxed W Bs 9 (.string s)) (h0 : J [] W) :
    CallsIn Fence.wide 4 Tryd.prog 102 #[.func (.yield l) #[] #[], .pointer (some ⟨Bs, 0, none⟩)] W fun e W' => (∃ v, e = .returned v) ∧ ∃ xs : List ByteArray, xs.map (fun x => x.data.toList) = piecesT s.data.toList ∧ J xs W' := by
  refine callsIn_of_wp Tryd.func102 rfl trivial ?_ rfl
  simp only [Tryd.ntmps102, List.size_toArray, List.length_cons, List.length_nil, Nat.reduceAdd, Nat.reduceSub, Array.replicate_succ, Array.replicate_zero, List.push_toArray, List.append_toArray, List.nil_append, List.cons_append]
  gi_wp2
  gi_loopw [3] (fun _ wr => ∃ (pre : List ByteArray) (r : ByteArray), Hid (Boxed wr Bs 9 (.string r)) ∧ Hid (piecesT s.data.toList = pre.map (fun x => x.data.toList) ++ piecesT r.data.toList) ∧ Hid (J pre wr) ∧ Hid (pre.length + r.size ≤ s.size))
    (fun _ wr => boxLen Bs wr)
  case atStart =>
    exact ⟨[], s, hB, by simp [Hid], h0, by simp [Hid]⟩
  case round =>
    obtain ⟨pre, r, hbx, hpc, hJ, hsz⟩ := hrel
    have hc := hbx.out.cell
    have hf := hbx.out.frozen
    have hrs : r.size ≤ 2000000 := by have := hsz.out; omega
    by_cases hr0 : 0 < r.size
    · have hr0' : (0 : Int) < (r.size : Int) := by omega
      rcases index_byte_ten r.data.toList with ⟨h1, h2⟩ | ⟨p, t, h1, h2, h3⟩
      · have hne : r.data.toList ≠ [] := by intro e; have h := bl_size r; rw [e] at h; simp at h; omega
        have IB : Hid (∀ W, Calls Tryd.prog 68 #[.string r, .int .u8 10] W fun e w' => e = .returned (.int .i64 (-1)) ∧ W = w') := fun W => by
          rw [← h1]
          exact (Tryd.strings_IndexByte r 10 W).mono fun e w' ⟨h1, h2⟩ => ⟨h1, h2.symm⟩
        have HX : Hid (r.size ≤ 2000000) := hrs
        have HP2 : Hid (piecesT s.data.toList = (pre ++ [r]).map (fun x => x.data.toList) ++ piecesT (⟨#[]⟩ : ByteArray).data.toList) := by
          show _ = _
          rw [hpc.out, pieces_last _ h2 hne, List.map_append, List.map_cons, List.map_nil]
          simp [pieces_nil]
        have HZ2 : Hid ((pre ++ [r]).length + (⟨#[]⟩ : ByteArray).size ≤ s.size) := by
          show _ ≤ _
          have := hsz.out
          rw [List.length_append, List.length_singleton]
          have e : (⟨#[]⟩ : ByteArray).size = 0 := rfl
          rw [e]; omega
        have HPL : Hid (pre.length < 2000000) := by show _ < _; have := hsz.out; omega
        have HR0 := Lib.hid hr0
        clear h1 h2 hne hpc hsz hrs
        gi_wp2
        refine ⟨trivial, (callsIn_wide.2 (IB.out _)).mono ?_⟩
        rintro e w1 ⟨rfl, rfl⟩
        have HBX2 : Hid (Boxed (wr.setCell ⟨Bs, 0, none⟩ (.string ⟨#[]⟩)) Bs 9 (.string ⟨#[]⟩)) := hbx.out.set (.string ⟨#[]⟩)
        obtain ⟨fn, tmps, assign, body, hy, hR⟩ := hY pre r _ (hJs _ _ ⟨#[]⟩ _ hJ.out hbx.out) ⟨HPL.out, HX.out⟩
        gi_wp2
        refine hR.mono ?_
        rintro e W3 ⟨rfl, hJ3, hk3⟩
        have HB3 := Lib.hid (hk3 _ HBX2.out)
        have HJ3 := Lib.hid hJ3
        clear hk3 hJ3
        gi_wp2
        go_roundw
        case rel => exact ⟨pre ++ [r], ⟨#[]⟩, HB3.out, HP2.out, HJ3.out, HZ2.out⟩
        case measure => show boxLen Bs W3 < boxLen Bs wr; unfold boxLen; rw [HB3.out.cell, hbx.out.cell]; exact HR0.out
      · have IB : Hid (∀ W, Calls Tryd.prog 68 #[.string r, .int .u8 10] W fun e w' => e = .returned (.int .i64 (p.length : Nat)) ∧ W = w') := fun W => by
          rw [← h3]
          exact (Tryd.strings_IndexByte r 10 W).mono fun e w' ⟨h1, h2⟩ => ⟨h1, h2.symm⟩
        have hsz1 := congrArg List.length h1
        rw [bl_size, List.length_append, List.length_cons] at hsz1
        have sl1 := slice_to_any r (p.length + 1) (by omega)
        have sl2 := slice_from_any r (p.length + 1) (by omega)
        have e1 : r.data.toList.take (p.length + 1) = p ++ [10] := by rw [h1, show p ++ 10 :: t = (p ++ [10]) ++ t by simp, show p.length + 1 = (p ++ [10]).length by simp, List.take_left]
        have e2 : r.data.toList.drop (p.length + 1) = t := by rw [h1, show p ++ 10 :: t = (p ++ [10]) ++ t by simp, show p.length + 1 = (p ++ [10]).length by simp, List.drop_left]
        rw [e1] at sl1
        rw [e2] at sl2
        obtain ⟨x, hx⟩ : ∃ x : ByteArray, (⟨(p ++ [10]).toArray⟩ : ByteArray) = x := ⟨_, rfl⟩
        obtain ⟨r2, hr2⟩ : ∃ x : ByteArray, (⟨t.toArray⟩ : ByteArray) = x := ⟨_, rfl⟩
        rw [hx] at sl1
        rw [hr2] at sl2
        have hxd : x.data.toList = p ++ [10] := by rw [← hx]
        have hrd : r2.data.toList = t := by rw [← hr2]
        have hxs : x.size = p.length + 1 := by rw [← bl_size, hxd]; simp
        have hrs2 : r2.size = t.length := by rw [← bl_size, hrd]
        have HX : Hid (x.size ≤ 2000000) := by show _ ≤ _; omega
        have HP2 : Hid (piecesT s.data.toList = (pre ++ [x]).map (fun x => x.data.toList) ++ piecesT r2.data.toList) := by
          show _ = _
          rw [hpc.out, h1, pieces_step p t h2, hrd, List.map_append, List.map_cons, List.map_nil, hxd]
          simp
        have HZ2 : Hid ((pre ++ [x]).length + r2.size ≤ s.size) := by show _ ≤ _; have := hsz.out; rw [List.length_append, List.length_singleton]; omega
        have HLT : Hid (r2.size < r.size) := by show _ < _; omega
        have HPL : Hid (pre.length < 2000000) := by show _ < _; have := hsz.out; omega
        generalize hk : p.length = k at *
        have hk0 : (0 : Int) ≤ (k : Int) := by omega
        have hkd : decide (0 ≤ k) = true := decide_eq_true (by omega)
        have hkz : k ≤ 2000000 := by omega
        have hwr : IntKind.i64.wrap ((k : Int) + 1) = (k : Int) + 1 := by rw [IntKind.wrap_i64]; omega
        have sl1' : ∀ W, (Instr.sliceAt 9 (.string r) none (some (.int .i64 ((k : Int) + 1))) none).run Tryd.prog W = .ok (.string x) W := fun W => by have := sl1 W; rwa [show ((k + 1 : Nat) : Int) = (k : Int) + 1 by omega] at this
        have sl2' : ∀ W, (Instr.sliceAt 9 (.string r) (some (.int .i64 ((k : Int) + 1))) none none).run Tryd.prog W = .ok (.string r2) W := fun W => by have := sl2 W; rwa [show ((k + 1 : Nat) : Int) = (k : Int) + 1 by omega] at this
        clear h1 h2 h3 e1 e2 hx hr2 hxd hrd hxs hrs2 hsz1 sl1 sl2 hpc hsz hk
        gi_wp2
        refine ⟨trivial, (callsIn_wide.2 (IB.out _)).mono ?_⟩
        rintro e w1 ⟨rfl, rfl⟩
        gi_wp2
        gi_region
        have hbx2 : Boxed ((wr.setCell ⟨Bs, 0, none⟩ (.string r2)).drew) Bs 9 (.string r2) := hbx.out.set (.string r2)
        have hJ2 := hJd _ _ (hJs _ _ r2 _ hJ.out hbx.out)
        generalize (wr.setCell ⟨Bs, 0, none⟩ (.string r2)).drew = W2 at hbx2 hJ2 ⊢
        obtain ⟨fn, tmps, assign, body, hy, hR⟩ := hY pre x W2 hJ2 ⟨HPL.out, HX.out⟩
        have HBX2 := Lib.hid hbx2
        clear hbx2 hJ2
        gi_wp2
        refine hR.mono ?_
        rintro e W3 ⟨rfl, hJ3, hk3⟩
        have HB3 := Lib.hid (hk3 _ HBX2.out)
        have HJ3 := Lib.hid hJ3
        clear hk3 hJ3
        gi_wp2
        go_roundw
        case rel => exact ⟨pre ++ [x], r2, HB3.out, HP2.out, HJ3.out, HZ2.out⟩
        case measure => show boxLen Bs W3 < boxLen Bs wr; unfold boxLen; rw [HB3.out.cell, hbx.out.cell]; exact HLT.out
    · have hr00 : r.size = 0 := by omega
      have hrl : r.data.toList = [] := List.length_eq_zero_iff.1 (by rw [bl_size]; exact hr00)
      have HP2 : Hid (pre.map (fun x => x.data.toList) = piecesT s.data.toList) := by show _ = _; rw [hpc.out, hrl, pieces_nil, List.append_nil]
      clear hpc hsz hrl
      gi_wp2
      go_end0
      exact ⟨⟨_, rfl⟩, pre, HP2.out, hJ.out⟩
end Go.Proofs.YtnggbhpnpomfjaaDoor.Rw
