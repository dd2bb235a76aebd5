/- The law 'RowsWrites': the text of any rows, how many lie deeper, and whether lists are the same, is told as the document says. Conditions: the decoder's tables as they are laid; the second form's bound on the bulk. -/
import Derived.Test.YtnggbhpnpomfjaaDoorRwBelow
import Derived.Test.YtnggbhpnpomfjaaDoorRwRWrite
import Derived.Test.YtnggbhpnpomfjaaDoorRwAlive
import Derived.Test.YtnggbhpnpomfjaaDoorRwOpen
set_option linter.unusedVariables false
namespace Go.Proofs.YtnggbhpnpomfjaaDoor.Rw
open Go.RowKit Bl
theorem writeL_le : ∀ rs : List Rw, (writeL rs).length ≤ rs.length * 65537 + bulkT rs
  | [] => by simp [writeL]
  | r :: rs => by
    have ih := writeL_le rs
    have h := padN_le r
    have h2 : (lineW r).length ≤ 65537 + r.txt.size := by
      unfold lineW
      rw [List.length_append, List.length_append, List.length_replicate, bl_size]
      simp only [List.length_cons, List.length_nil]
      omega
    have e : writeL (r :: rs) = lineW r ++ writeL rs := by simp [writeL]
    rw [e, List.length_append, List.length_cons]
    have e2 : bulkT (r :: rs) = r.txt.size + bulkT rs := by unfold bulkT; rw [List.map_cons, List.sum_cons]
    rw [e2]
    omega
end Go.Proofs.YtnggbhpnpomfjaaDoor.Rw
namespace Go.Proofs.YtnggbhpnpomfjaaDoor
open Go.RowKit Bl
set_option maxRecDepth 100000 in
set_option maxHeartbeats 3200000 in
theorem law_RowsWrites (w : World) (A : Option Addr) (c : Nat) (rs : List Rw) (g : Bl.RowsIn w A c rs) (hz : bulkT rs ≤ 1048576 ∧ rs.length ≤ 1048576) (A2 : Option Addr) (c2 : Nat) (ks : List Rw) (g2 : Bl.RowsIn w A2 c2 ks) (hz2 : bulkT ks ≤ 1048576 ∧ ks.length ≤ 1048576) (col : Int) (hcol : -9223372036854775808 ≤ col ∧ col ≤ 9223372036854775807) (hT : Tabs w) :
    Calls Tryd.prog 16 #[.slice A rs.length c, .slice A2 ks.length c2, .int .i64 col] w (LawPost w) := by
  have AL := Lib.hid (fun W (hW : Below w.heap.size w W) => Rw.alive_any W (hT.below hW))
  obtain ⟨hz1, hz1l⟩ := hz
  obtain ⟨_, hz2l⟩ := hz2
  have WD := Lib.hid (Rw.wide_rows A c rs w g (by omega))
  have WR := Lib.hid (fun W (hW : Below w.heap.size w W) (h : rs.length ≤ 1000) => Rw.write_any A c rs W (g.below hW) (by omega) (by have := Rw.writeL_le rs; have : rs.length * 65537 ≤ 1000 * 65537 := Nat.mul_le_mul_right _ h; omega))
  have WR2 := Lib.hid (fun W (hW : Below w.heap.size w W) (h : rs.length ≤ 1000) => Rw.rwrite_any A c rs W (g.below hW) (by omega) (by have := Rw.writeL_le rs; have : rs.length * 65537 ≤ 1000 * 65537 := Nat.mul_le_mul_right _ h; omega))
  have BL := Lib.hid (fun W (hW : Below w.heap.size w W) => Rw.below_any A c rs col W (g.below hW) (by omega))
  have BL2 := Lib.hid (fun W (hW : Below w.heap.size w W) => Rw.rbelow_any A c rs col W (g.below hW) (by omega))
  have SM := Lib.hid (fun W (hW : Below w.heap.size w W) => Rw.same_any A A2 c c2 rs ks W (g.below hW) (g2.below hW) (by omega) (by omega))
  have SM2 := Lib.hid (fun W (hW : Below w.heap.size w W) => Rw.rsame_any A A2 c c2 rs ks W (g.below hW) (g2.below hW) (by omega) (by omega))
  have SS := Lib.hid (fun W (hW : Below w.heap.size w W) => Rw.same_any A A c c rs rs W (g.below hW) (g.below hW) (by omega) (by omega))
  rw [Rw.sameN_self] at SS
  generalize Rw.sameN rs ks = q at SM SM2
  generalize (Rw.belowN rs col : Int) = n at BL BL2
  generalize (⟨(Rw.writeL rs).toArray⟩ : ByteArray) = t at WR WR2
  have q1 := Bl.strEq t
  have q2 : (n == n) = true := beq_self_eq_true _
  have q3 : (q == q) = true := beq_self_eq_true _
  clear g g2 hT hz1 hz1l hz2l
  go_enter Tryd.func16, Tryd.ntmps16
  go_wp2_with fail
  refine WD.out.mono ?_
  rintro e w1 ⟨b, rfl, hb1, himp⟩
  have HB1 := Lib.hid hb1
  cases b with
  | true =>
    clear hb1 himp
    go_wp2_with fail
    refine (AL.out _ HB1.out).mono ?_
    rintro e w2 ⟨rfl, hb2⟩
    have HB2 := Lib.hid (HB1.out.trans (hb2.mono HB1.out.size))
    clear hb2
    go_wp2_with fail
    go_ret
    exact ⟨rfl, HB2.out⟩
  | false =>
    have HK := Lib.hid (himp rfl).1
    clear hb1 himp
    go_wp2_with fail
    refine (WR.out _ HB1.out HK.out).mono ?_
    rintro e w2 ⟨rfl, hb2⟩
    have HB2 := Lib.hid (HB1.out.trans (hb2.mono HB1.out.size))
    clear hb2
    go_wp2_with fail
    refine (WR2.out _ HB2.out HK.out).mono ?_
    rintro e w3 ⟨rfl, hb3⟩
    have HB3 := Lib.hid (HB2.out.trans (hb3.mono HB2.out.size))
    clear hb3
    go_wp2_with fail
    refine (BL.out _ HB3.out).mono ?_
    rintro e w4 ⟨rfl, hb4⟩
    have HB4 := Lib.hid (HB3.out.trans (hb4.mono HB3.out.size))
    clear hb4
    go_wp2_with fail
    refine (BL2.out _ HB4.out).mono ?_
    rintro e w5 ⟨rfl, hb5⟩
    have HB5 := Lib.hid (HB4.out.trans (hb5.mono HB4.out.size))
    clear hb5
    go_wp2_with fail
    refine (SM.out _ HB5.out).mono ?_
    rintro e w6 ⟨rfl, hb6⟩
    have HB6 := Lib.hid (HB5.out.trans (hb6.mono HB5.out.size))
    clear hb6
    go_wp2_with fail
    refine (SM2.out _ HB6.out).mono ?_
    rintro e w7 ⟨rfl, hb7⟩
    have HB7 := Lib.hid (HB6.out.trans (hb7.mono HB6.out.size))
    clear hb7
    go_wp2_with fail
    refine (SS.out _ HB7.out).mono ?_
    rintro e w8 ⟨rfl, hb8⟩
    have HB8 := Lib.hid (HB7.out.trans (hb8.mono HB7.out.size))
    clear hb8
    go_wp2_with fail
    refine (AL.out _ HB8.out).mono ?_
    rintro e w9 ⟨rfl, hb9⟩
    have HB9 := Lib.hid (HB8.out.trans (hb9.mono HB8.out.size))
    clear hb9
    go_wp2_with fail
    go_ret
    exact ⟨rfl, HB9.out⟩
end Go.Proofs.YtnggbhpnpomfjaaDoor
