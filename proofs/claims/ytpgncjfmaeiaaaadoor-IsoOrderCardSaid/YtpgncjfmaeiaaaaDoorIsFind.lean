/- The value of a key of a Map. Conditions: as for the graph. -/
import Derived.Test.YtpgncjfmaeiaaaaDoorIsEnt
set_option linter.unusedVariables false
namespace Go.Proofs.YtpgncjfmaeiaaaaDoor.Is
open Go.RowKit
open Go.Maps (Keyed)
section
variable {ops : Array Oper} {rest : List Oper} {o : Oper} {a : Act} {Q : Exit → Act → World → Prop}
/-- a look-up, at the operation -/
theorem wpList_mf_ok (w : World) (hg : o.guard = none) (m x : Operand) (t : TypeId) (hop : o.op = Op.lookup t m x true) (kt e : TypeId) (K : Keyed Tryd.prog kt) (ht : Tryd.prog.underlying t = some (.map kt e)) {z : Value} (hz : (zeroValue e).run Tryd.prog w = .ok z w) {zd : Dat} {zp : List MemPlace} (hzd : RX z = some (zd, zp)) (b n : Nat) (f : Value → Option Value)
    (hm : a.eval m = .map (some b)) (M : MF w kt b n f) (key : Value) (kl : Lit) (hx : a.eval x = key) (hkey : keyOf Tryd.prog kt key = some kl)
    (hK : wpList Tryd.prog ops Q rest (a.put o.dst (.tuple #[(f key).getD z, .bool (f key).isSome])) w) :
    wpList Tryd.prog ops Q (o :: rest) a w := by
  refine wpList_plain hg fun K' hK' => ?_
  have hrun := M.look_ok K ht hz hzd hkey
  unfold Oper.wp
  simp [execOp, hop, hm, hx, hrun, Result.andThen]
  exact hK' _ _ hK
end
theorem zpair (w : World) : (zeroValue 55).run Tryd.prog w = .ok (.agg #[.int .i64 0, .int .i64 0]) w := by kernel_rfl
theorem right_len {g : Gv} (h : rightN g = true) : 1 ≤ g.ns.length ∧ g.ns.length ≤ 4096 ∧ 0 ≤ g.root ∧ g.root < g.ns.length := by
  unfold rightN at h
  simp only [Bool.and_eq_true, decide_eq_true_eq] at h
  exact ⟨h.1, h.2.1, h.2.2.1, h.2.2.2.1⟩
theorem right_node {g : Gv} (h : rightN g = true) {m : Nd} (hm : m ∈ g.ns) : nodeB g.ns m = true := by
  unfold rightN at h
  simp only [Bool.and_eq_true] at h
  exact List.all_eq_true.1 h.2.2.2.2.1 m hm
theorem right_kids {g : Gv} (h : rightN g = true) {m : Nd} (hm : m ∈ g.ns) : ∀ k ∈ m.kids, 0 ≤ k ∧ k < g.ns.length := fun k hk => by
  have h1 := right_node h hm
  unfold nodeB at h1
  simp only [Bool.and_eq_true] at h1
  have h9 := h1.2.2.2.2.2.1
  simp only [Bool.not_eq_true', List.any_eq_false] at h9
  have h8 := h9 k hk
  simp only [kidBad, Bool.or_eq_true, decide_eq_true_eq, not_or] at h8
  omega
/-- no text, no row of kids is too long -/
def SmallG (ns : List Nd) : Prop := ns.length ≤ 4096 → ∀ m ∈ ns, m.txt.size ≤ 1000000 ∧ m.kids.length ≤ 1000000
/-- the value of a key -/
def findN (g : Gv) (at_ kind : Int) (txt : ByteArray) : Int × Bool :=
  if rightN g = true ∧ 0 ≤ at_ ∧ at_ < g.ns.length ∧ (g.ns.getD at_.toNat nd0).kind = 6 then
    match entTo g.ns (g.ns.getD at_.toNat nd0).kids ((g.ns.getD at_.toNat nd0).kids.length / 2) (kind, txt) with
    | some x => (x.2, true)
    | none => (0, false)
  else (0, false)
def FindPost (r : Int × Bool) (w : World) (e : Ending) (w' : World) : Prop := e = .returned (.tuple #[.int .i64 r.1, .bool r.2]) ∧ Below w.heap.size w w'
set_option maxRecDepth 100000 in
set_option maxHeartbeats 3200000 in
theorem find_any (g : Gv) (at_ kind : Int) (txt : ByteArray) (w : World) (E : Env w) (G : GrIn w g) (hS : SmallG g.ns) (hk : wf64 kind) (ht : txt.size ≤ 140737488351232) :
    Calls Tryd.prog 17 #[g.val, .int .i64 at_, .int .i64 kind, .string txt] w (FindPost (findN g at_ kind txt) w) := by
  have RT : Hid (∀ W, Below w.heap.size w W → Calls Tryd.prog 15 #[g.val] W (BoolPost (rightN g) W)) := fun W hb => right_any g W (E.below hb) (G.below hb) hS
  obtain ⟨R, hR⟩ : ∃ R, R = findN g at_ kind txt := ⟨_, rfl⟩
  rw [← hR]
  have hcap := G.cap
  obtain ⟨A, c, ns, root⟩ := g
  obtain ⟨n, hn⟩ : ∃ n, n = ns.length := ⟨_, rfl⟩
  have HN := Lib.hid hn
  have HR : Hid (R = if rightN ⟨A, c, ns, root⟩ = true ∧ 0 ≤ at_ ∧ at_ < n ∧ (ns.getD at_.toNat nd0).kind = 6 then
    (match entTo ns (ns.getD at_.toNat nd0).kids ((ns.getD at_.toNat nd0).kids.length / 2) (kind, txt) with
    | some x => (x.2, true)
    | none => (0, false))
  else (0, false)) := by rw [hn]; exact hR
  have HG := Lib.hid G
  have HRN : Hid (rightN ⟨A, c, ns, root⟩ = true → ∀ m ∈ ns, (m.txt.size ≤ 1000000 ∧ m.kids.length ≤ 1000000) ∧ ∀ k ∈ m.kids, 0 ≤ k ∧ k < ns.length) := fun h m hm => ⟨hS (right_len h).2.1 m hm, right_kids h hm⟩
  clear hR G E hS
  unfold Gv.val at *
  simp only at *
  have HB0 : Hid (Below w.heap.size w (w.alloc (.cells #[.slice A ns.length c, .int .i64 root] 24))) := ext_world w _
  rw [← hn] at HB0 RT hcap ⊢
  clear hn
  generalize rightN ⟨A, c, ns, root⟩ = rt at RT HR HRN
  have g00 := bcell (heap_new w #[.slice A n c, .int .i64 root] 24) 0
  have g01 := bcell (heap_new w #[.slice A n c, .int .i64 root] 24) 1
  cases rt
  case false =>
    have HF : Hid (R = (0, false)) := by show _ = _; rw [HR.out, if_neg (by simp)]
    clear HR
    go_enter Tryd.func17, Tryd.ntmps17
    go_wp2_with fail
    refine (RT.out _ HB0.out).mono ?_
    rintro e w1 ⟨rfl, hb1⟩
    have B1 : Hid (Below w.heap.size w w1) := HB0.out.trans (hb1.mono HB0.out.size)
    clear hb1
    go_wp2_with fail
    exact bodyPost_ret (v := .tuple #[.int .i64 0, .bool false]) (by simp [results, Tryd.results17, go_sem]) rfl ⟨by rw [HF.out], B1.out⟩
  case true =>
    by_cases h1 : 0 ≤ at_
    case neg =>
      have h1I : at_ < 0 := by omega
      have HF : Hid (R = (0, false)) := by show _ = _; rw [HR.out, if_neg (by omega)]
      clear HR
      go_enter Tryd.func17, Tryd.ntmps17
      go_wp2_with fail
      refine (RT.out _ HB0.out).mono ?_
      rintro e w1 ⟨rfl, hb1⟩
      have B1 : Hid (Below w.heap.size w w1) := HB0.out.trans (hb1.mono HB0.out.size)
      clear hb1
      go_wp2_with fail
      exact bodyPost_ret (v := .tuple #[.int .i64 0, .bool false]) (by simp [results, Tryd.results17, go_sem]) rfl ⟨by rw [HF.out], B1.out⟩
    have h1I : ¬ (at_ < 0) := by omega
    by_cases h2 : at_ < n
    case neg =>
      have h2I : (n : Int) ≤ at_ := by omega
      have HF : Hid (R = (0, false)) := by show _ = _; rw [HR.out, if_neg (by omega)]
      clear HR
      go_enter Tryd.func17, Tryd.ntmps17
      go_wp2_with fail
      refine (RT.out _ HB0.out).mono ?_
      rintro e w1 ⟨rfl, hb1⟩
      have B1 : Hid (Below w.heap.size w w1) := HB0.out.trans (hb1.mono HB0.out.size)
      have g0 : w1.cell? ⟨w.heap.size, 0, none⟩ = some (.slice A n c) := (hb1.cell (p := ⟨w.heap.size, 0, none⟩) (by simp)).trans g00
      clear hb1
      go_wp2_with fail
      exact bodyPost_ret (v := .tuple #[.int .i64 0, .bool false]) (by simp [results, Tryd.results17, go_sem]) rfl ⟨by rw [HF.out], B1.out⟩
    have h2I : ¬ ((n : Int) ≤ at_) := by omega
    obtain ⟨m, rfl⟩ : ∃ m : Nat, at_ = (m : Int) := ⟨at_.toNat, by omega⟩
    have hm : m < n := by omega
    have hmI : (m : Int) < (n : Int) := by omega
    have HMEM : Hid (ns.getD m nd0 ∈ ns) := getD_memD (by rw [← HN.out]; exact hm)
    have HSM := HRN.out rfl _ HMEM.out
    have HKD : Hid (KidsAt w (ns.getD m nd0)) := HG.out.kids _ HMEM.out
    have HND : Hid (∀ W, Below w.heap.size w W → ∃ b off, A = some ⟨b, off, none⟩ ∧ b < W.heap.size ∧ W.cell? ⟨b, off + m * 3, none⟩ = some (.int .i64 (ns.getD m nd0).kind) ∧ W.cell? ⟨b, off + m * 3 + 1, none⟩ = some (.string (ns.getD m nd0).txt) ∧ W.cell? ⟨b, off + m * 3 + 2, none⟩ = some (.slice (ns.getD m nd0).ka (ns.getD m nd0).kids.length (ns.getD m nd0).kc)) := fun W hb => (HG.out.below hb).get m (by show m < ns.length; rw [← HN.out]; exact hm)
    have ENT : Hid (∀ W, Below w.heap.size w W → Calls Tryd.prog 28 #[.agg #[.slice A n c, .int .i64 root], (ns.getD m nd0).val] W (EntPost ns (ns.getD m nd0).kids W)) := fun W hb => by
      have h9 := entries_any ⟨A, c, ns, root⟩ (ns.getD m nd0) W (HG.out.below hb) (HKD.out.below hb) HSM.1.2 (fun x hx => (HRN.out rfl x hx).1.1) HSM.2
      unfold Gv.val at h9
      simp only at h9
      rw [← HN.out] at h9
      exact h9
    rw [Int.toNat_natCast] at HR
    generalize ns.getD m nd0 = nd at HR HSM HND ENT HMEM HKD
    obtain ⟨nk, nt, kids, ka, kc⟩ := nd
    unfold Nd.val at ENT
    simp only at HR HSM HND ENT
    by_cases h6 : nk = 6
    case neg =>
      have h6I : (nk == 6) = false := beq_eq_false_iff_ne.2 h6
      have h6J : (nk != 6) = true := by unfold bne; rw [h6I]; rfl
      have HF : Hid (R = (0, false)) := by show _ = _; rw [HR.out, if_neg (fun h => h6 h.2.2.2)]
      clear HR
      go_enter Tryd.func17, Tryd.ntmps17
      go_wp2_with fail
      refine (RT.out _ HB0.out).mono ?_
      rintro e w1 ⟨rfl, hb1⟩
      have B1 : Hid (Below w.heap.size w w1) := HB0.out.trans (hb1.mono HB0.out.size)
      have g0 : w1.cell? ⟨w.heap.size, 0, none⟩ = some (.slice A n c) := (hb1.cell (p := ⟨w.heap.size, 0, none⟩) (by simp)).trans g00
      obtain ⟨bg, og, hA, hbl, n0, n1, n2⟩ := HND.out _ B1.out
      clear hb1
      subst hA
      go_wp2_with fail
      exact bodyPost_ret (v := .tuple #[.int .i64 0, .bool false]) (by simp [results, Tryd.results17, go_sem]) rfl ⟨by rw [HF.out], B1.out⟩
    subst h6
    have HF : Hid (R = (match entTo ns kids (kids.length / 2) (kind, txt) with
      | some x => (x.2, true)
      | none => (0, false))) := by
      show _ = _
      rw [HR.out, if_pos (by simp; omega)]
    clear HR
    obtain ⟨kl, hkey⟩ := keyOf_ikey (s := txt) hk (by unfold maxLen; omega)
    have HKEY := Lib.hid hkey
    obtain ⟨x, y, fnd, hxy⟩ : ∃ x y fnd, ((entTo ns kids (kids.length / 2) (kind, txt) = none ∧ x = 0 ∧ y = 0 ∧ fnd = false) ∨ (entTo ns kids (kids.length / 2) (kind, txt) = some (x, y) ∧ fnd = true)) := by
      cases hent : entTo ns kids (kids.length / 2) (kind, txt) with
      | none => exact ⟨0, 0, false, Or.inl ⟨rfl, rfl, rfl, rfl⟩⟩
      | some v => exact ⟨v.1, v.2, true, Or.inr ⟨rfl, rfl⟩⟩
    have HF2 : Hid (R = (y, fnd)) := by
      show _ = _
      rw [HF.out]
      rcases hxy with ⟨h1, h2, h3, h4⟩ | ⟨h1, h2⟩
      · rw [h1, h3, h4]
      · rw [h1, h2]
    have EK : Hid (∀ W, Below w.heap.size w W → Calls Tryd.prog 28 #[.agg #[.slice A n c, .int .i64 root], .agg #[.int .i64 6, .string nt, .slice ka kids.length kc]] W (fun e w' => ∃ b, e = .returned (.map (some b)) ∧ Below W.heap.size W w' ∧ (∀ V, Below w'.heap.size w' V → (Instr.lookup 57 (.map (some b)) (.agg #[.int .i64 kind, .string txt]) true).run Tryd.prog V = .ok (.tuple #[.agg #[.int .i64 x, .int .i64 y], .bool fnd]) V))) := fun W hb => by
      refine (ENT.out W hb).mono ?_
      rintro e w' ⟨b, nn, f, rfl, hM, hnn, hE, hbb, hba⟩
      refine ⟨b, rfl, hba, fun V hV => ?_⟩
      rw [(hM.below hV).look_ok keyed_ikey Tryd.underlying57 (zpair _) (RX_pair 0 0) HKEY.out]
      have h9 : f (.agg #[.int .i64 kind, .string txt]) = (entTo ns kids (kids.length / 2) (kind, txt)).map pairV := hE (kind, txt)
      rw [h9]
      rcases hxy with ⟨h1, h2, h3, h4⟩ | ⟨h1, h2⟩
      · rw [h1, h2, h3, h4]; rfl
      · rw [h1, h2]; rfl
    clear ENT HF hxy
    generalize hkl : kids.length = KL at HND EK
    go_enter Tryd.func17, Tryd.ntmps17
    go_wp2_with fail
    refine (RT.out _ HB0.out).mono ?_
    rintro e w1 ⟨rfl, hb1⟩
    have B1 : Hid (Below w.heap.size w w1) := HB0.out.trans (hb1.mono HB0.out.size)
    have g0 : w1.cell? ⟨w.heap.size, 0, none⟩ = some (.slice A n c) := (hb1.cell (p := ⟨w.heap.size, 0, none⟩) (by simp)).trans g00
    have g1 : w1.cell? ⟨w.heap.size, 1, none⟩ = some (.int .i64 root) := (hb1.cell (p := ⟨w.heap.size, 1, none⟩) (by simp)).trans g01
    obtain ⟨bg, og, hA, hbl, n0, n1, n2⟩ := HND.out _ B1.out
    clear hb1
    subst hA
    go_wp2_with fail
    obtain ⟨SW, hSW⟩ : ∃ SW : World → Prop, ∀ W, SW W ↔ (Below w.heap.size w W ∧ W.cell? ⟨w.heap.size, 0, none⟩ = some (.slice (some ⟨bg, og, none⟩) n c) ∧ W.cell? ⟨w.heap.size, 1, none⟩ = some (.int .i64 root) ∧ W.cell? ⟨bg, og + m * 3, none⟩ = some (.int .i64 6) ∧ W.cell? ⟨bg, og + m * 3 + 1, none⟩ = some (.string nt) ∧ W.cell? ⟨bg, og + m * 3 + 2, none⟩ = some (.slice ka KL kc)) := ⟨fun W => _, fun W => Iff.rfl⟩
    have HSW := Lib.hid hSW
    have SBH : Hid (∀ V V' : World, Below V.heap.size V V' → (Below w.heap.size w V ∧ V.cell? ⟨w.heap.size, 0, none⟩ = some (.slice (some ⟨bg, og, none⟩) n c) ∧ V.cell? ⟨w.heap.size, 1, none⟩ = some (.int .i64 root) ∧ V.cell? ⟨bg, og + m * 3, none⟩ = some (.int .i64 6) ∧ V.cell? ⟨bg, og + m * 3 + 1, none⟩ = some (.string nt) ∧ V.cell? ⟨bg, og + m * 3 + 2, none⟩ = some (.slice ka KL kc)) →
        (Below w.heap.size w V' ∧ V'.cell? ⟨w.heap.size, 0, none⟩ = some (.slice (some ⟨bg, og, none⟩) n c) ∧ V'.cell? ⟨w.heap.size, 1, none⟩ = some (.int .i64 root) ∧ V'.cell? ⟨bg, og + m * 3, none⟩ = some (.int .i64 6) ∧ V'.cell? ⟨bg, og + m * 3 + 1, none⟩ = some (.string nt) ∧ V'.cell? ⟨bg, og + m * 3 + 2, none⟩ = some (.slice ka KL kc))) := by
      rintro V V' hB ⟨h0, h1, h2, h3, h4, h5⟩
      exact ⟨h0.trans (hB.mono h0.size), (hB.cell (p := ⟨w.heap.size, 0, none⟩) (block_lt_of_cell h1)).trans h1, (hB.cell (p := ⟨w.heap.size, 1, none⟩) (block_lt_of_cell h2)).trans h2, (hB.cell (p := ⟨bg, og + m * 3, none⟩) (block_lt_of_cell h3)).trans h3, (hB.cell (p := ⟨bg, og + m * 3 + 1, none⟩) (block_lt_of_cell h4)).trans h4, (hB.cell (p := ⟨bg, og + m * 3 + 2, none⟩) (block_lt_of_cell h5)).trans h5⟩
    have D0 : Hid (Below w.heap.size w w1.drew ∧ w1.drew.cell? ⟨w.heap.size, 0, none⟩ = some (.slice (some ⟨bg, og, none⟩) n c) ∧ w1.drew.cell? ⟨w.heap.size, 1, none⟩ = some (.int .i64 root) ∧ w1.drew.cell? ⟨bg, og + m * 3, none⟩ = some (.int .i64 6) ∧ w1.drew.cell? ⟨bg, og + m * 3 + 1, none⟩ = some (.string nt) ∧ w1.drew.cell? ⟨bg, og + m * 3 + 2, none⟩ = some (.slice ka KL kc)) := ⟨dr B1.out 1, g0, g1, n0, n1, n2⟩
    have D1 : Hid (Below w.heap.size w (w1.alloc (.cells #[.int .i64 0, .int .i64 0] 55)).drew ∧ (w1.alloc (.cells #[.int .i64 0, .int .i64 0] 55)).drew.cell? ⟨w.heap.size, 0, none⟩ = some (.slice (some ⟨bg, og, none⟩) n c) ∧ (w1.alloc (.cells #[.int .i64 0, .int .i64 0] 55)).drew.cell? ⟨w.heap.size, 1, none⟩ = some (.int .i64 root) ∧ (w1.alloc (.cells #[.int .i64 0, .int .i64 0] 55)).drew.cell? ⟨bg, og + m * 3, none⟩ = some (.int .i64 6) ∧ (w1.alloc (.cells #[.int .i64 0, .int .i64 0] 55)).drew.cell? ⟨bg, og + m * 3 + 1, none⟩ = some (.string nt) ∧ (w1.alloc (.cells #[.int .i64 0, .int .i64 0] 55)).drew.cell? ⟨bg, og + m * 3 + 2, none⟩ = some (.slice ka KL kc)) := SBH.out w1.drew (w1.alloc (.cells #[.int .i64 0, .int .i64 0] 55)).drew (ext_world w1.drew _) D0.out
    have hw1 : Hid (w.heap.size ≤ w1.heap.size ∧ w.heap.size < w1.heap.size ∧ bg < w1.heap.size) := ⟨B1.out.size, block_lt_of_cell g0, hbl⟩
    have SRH : Hid (∀ (V : World) (u v : Value), (Below w.heap.size w V ∧ V.cell? ⟨w.heap.size, 0, none⟩ = some (.slice (some ⟨bg, og, none⟩) n c) ∧ V.cell? ⟨w.heap.size, 1, none⟩ = some (.int .i64 root) ∧ V.cell? ⟨bg, og + m * 3, none⟩ = some (.int .i64 6) ∧ V.cell? ⟨bg, og + m * 3 + 1, none⟩ = some (.string nt) ∧ V.cell? ⟨bg, og + m * 3 + 2, none⟩ = some (.slice ka KL kc)) → (Below w.heap.size w ((V.setCell ⟨w1.heap.size, 0, none⟩ u).setCell ⟨w1.heap.size, 1, none⟩ v) ∧ ((V.setCell ⟨w1.heap.size, 0, none⟩ u).setCell ⟨w1.heap.size, 1, none⟩ v).cell? ⟨w.heap.size, 0, none⟩ = some (.slice (some ⟨bg, og, none⟩) n c) ∧ ((V.setCell ⟨w1.heap.size, 0, none⟩ u).setCell ⟨w1.heap.size, 1, none⟩ v).cell? ⟨w.heap.size, 1, none⟩ = some (.int .i64 root) ∧ ((V.setCell ⟨w1.heap.size, 0, none⟩ u).setCell ⟨w1.heap.size, 1, none⟩ v).cell? ⟨bg, og + m * 3, none⟩ = some (.int .i64 6) ∧ ((V.setCell ⟨w1.heap.size, 0, none⟩ u).setCell ⟨w1.heap.size, 1, none⟩ v).cell? ⟨bg, og + m * 3 + 1, none⟩ = some (.string nt) ∧ ((V.setCell ⟨w1.heap.size, 0, none⟩ u).setCell ⟨w1.heap.size, 1, none⟩ v).cell? ⟨bg, og + m * 3 + 2, none⟩ = some (.slice ka KL kc))) := by
      rintro V u v ⟨h0, h1, h2, h3, h4, h5⟩
      have hz := hw1.out
      have key : ∀ (a : Addr) (x : Value), V.cell? a = some x → a.block ≠ w1.heap.size → ((V.setCell ⟨w1.heap.size, 0, none⟩ u).setCell ⟨w1.heap.size, 1, none⟩ v).cell? a = some x := fun a x h hne => setCell_cell (setCell_cell h hne) hne
      exact ⟨(h0.setCell (p := ⟨w1.heap.size, 0, none⟩) hz.1 u).setCell (p := ⟨w1.heap.size, 1, none⟩) hz.1 v, key _ _ h1 (by show w.heap.size ≠ _; omega), key _ _ h2 (by show w.heap.size ≠ _; omega), key _ _ h3 (by show bg ≠ _; omega), key _ _ h4 (by show bg ≠ _; omega), key _ _ h5 (by show bg ≠ _; omega)⟩
    have BXH : Hid (∀ wa, Below (w1.alloc (.cells #[.int .i64 0, .int .i64 0] 55)).drew.heap.size (w1.alloc (.cells #[.int .i64 0, .int .i64 0] 55)).drew wa → wa.heap[w1.heap.size]? = some (.cells #[.int .i64 0, .int .i64 0] 55 (0, 0))) := fun wa hb => by
      have h1 : (w1.alloc (.cells #[.int .i64 0, .int .i64 0] 55)).heap[w1.heap.size]? = some (.cells #[.int .i64 0, .int .i64 0] 55 (0, 0)) := heap_new w1 _ _
      exact (hb.block w1.heap.size (blt h1)).trans h1
    clear hSW HSW
    go_region_held3 (fun w' => Below w.heap.size w w' ∧ w'.cell? ⟨w.heap.size, 0, none⟩ = some (.slice (some ⟨bg, og, none⟩) n c) ∧ w'.cell? ⟨w.heap.size, 1, none⟩ = some (.int .i64 root) ∧ w'.cell? ⟨bg, og + m * 3, none⟩ = some (.int .i64 6) ∧ w'.cell? ⟨bg, og + m * 3 + 1, none⟩ = some (.string nt) ∧ w'.cell? ⟨bg, og + m * 3 + 2, none⟩ = some (.slice ka KL kc))
      (first
        | exact D0.out
        | exact sa.out
        | exact D1.out
        | exact SRH.out _ _ _ sa.out
        | exact SBH.out _ _ (ext_world _ _) sa.out
        | exact SBH.out _ _ (by assumption) (by assumption)
        | exact SBH.out _ _ (by assumption) ⟨by assumption, by assumption, by assumption, by assumption, by assumption, by assumption⟩
        | exact SBH.out _ _ (by assumption) D0.out
        | exact SBH.out _ _ (ext_world _ _) (by assumption)
        | exact SBH.out _ _ (ext_world _ _) D0.out
        | exact SBH.out _ _ (ext_world _ _) ⟨by assumption, by assumption, by assumption, by assumption, by assumption, by assumption⟩
        | assumption
        | go_keep)
      (first
        | (go_at_call 28; (with_reducible refine (EK.out _ (by first | exact D0.out.1 | exact D1.out.1)).mono ?_); rintro e wa ⟨b, rfl, hba, hlk⟩; have sa := Lib.hid (SBH.out _ _ hba (by first | exact D0.out | exact D1.out)); have hlk1 := hlk wa (Below.refl _ _); have hlk2 := hlk _ (ext_world wa (.cells #[.int .i64 0, .int .i64 0] 55)); try (have bx := Lib.hid (BXH.out _ hba); have by1 := bcell (block_set (block_set bx.out 0 (.int .i64 x)) 1 (.int .i64 y)) 1; have bc0 := bcell bx.out 0; have bc1 := bcell bx.out 1; have bf0 := bfree bx.out 0; have bf1 := bfree bx.out 1))
        | (refine wpList_store_row rfl 55 _ _ rfl _ #[.int .i64 x, .int .i64 y] rfl rfl 55 _ (heap_new _ _ _) (by kernel_rfl) rfl (two_one _ _) ?_)
        | fail)
    all_goals
      rename_i hh
      have HF3 := Lib.hid hh.1
      clear hh
      go_wp2_with fail
      exact bodyPost_ret (v := .tuple #[.int .i64 y, .bool fnd]) (by simp [results, Tryd.results17, go_sem]) rfl ⟨by rw [HF2.out], HF3.out⟩
end Go.Proofs.YtpgncjfmaeiaaaaDoor.Is
