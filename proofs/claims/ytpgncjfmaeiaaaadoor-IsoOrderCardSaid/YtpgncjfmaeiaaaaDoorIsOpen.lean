/- From the arguments' readings to what the walks ask: a node, a graph. Conditions: none. -/
import Derived.Test.YtpgncjfmaeiaaaaDoorLawIsA
import Derived.Test.YtpgncjfmaeiaaaaDoorRows
import Derived.Lib.LaidU8T
import Derived.OpenShut
import Derived.ShutString
import Derived.ChangeMaps5
import Derived.ChangeOld
import Derived.SizedLaws
import Derived.Deep.DeepHandedRow
import Derived.Deep.Slices
set_option linter.unusedVariables false
namespace Go.Proofs.YtpgncjfmaeiaaaaDoor.Is
open Go.ChangeShapes Go.WideShapes Go.ChangeAt Go.RowKit
section
variable {H : Type} {enc : TypeId × Value → H} {w W : World} {b0 base : Nat} {spare : Nat → Bool} {held : Bool}
theorem i64_of_wf {n : Int} (h : (Lit.int .i64 n).wf = true) : wf64 n := by
  have : -9223372036854775808 ≤ n ∧ n ≤ 9223372036854775807 := by simpa [Lit.wf, IntKind.min, IntKind.max, IntKind.signed, IntKind.bits] using h
  unfold wf64
  omega
set_option maxRecDepth 100000 in
theorem nodeType : ∃ f0 f1 f2 : Field, Tryd.prog.underlying 38 = some (.struct #[f0, f1, f2]) ∧ f0.type = 3 ∧ f1.type = 9 ∧ f2.type = 36 ∧ f0.offset = 0 ∧ f1.offset = 1 ∧ f2.offset = 2 := ⟨_, _, _, Tryd.underlying38, rfl, rfl, rfl, rfl, rfl, rfl⟩
set_option maxRecDepth 100000 in
theorem graphType : ∃ f0 f1 : Field, Tryd.prog.underlying 24 = some (.struct #[f0, f1]) ∧ f0.type = 22 ∧ f1.type = 3 ∧ f0.offset = 0 ∧ f1.offset = 1 := ⟨_, _, Tryd.underlying24, rfl, rfl, rfl, rfl⟩
theorem add_none (b o k : Nat) : (⟨b, o, none⟩ : Addr).add k = ⟨b, o + k, none⟩ := by unfold Addr.add; split <;> simp_all
set_option maxRecDepth 100000 in
/-- a row of numbers, in one cell -/
theorem open_kids {fuel : Nat} {v : Value} {y : DataW H × List MemPlace} (h : DataW.trod enc Tryd.prog w base spare held fuel 36 [v] = some y) :
    ∃ (A : Option Addr) (c : Nat) (zs : List Int), v = .slice A zs.length c ∧ zs.length ≤ c ∧ (∀ k ∈ zs, wf64 k) ∧ ∀ i, i < zs.length → ∃ b off, A = some ⟨b, off, none⟩ ∧ b < w.heap.size ∧ w.cell? ⟨b, off + i, none⟩ = some (.int .i64 (zs.getD i 0)) := by
  have ci : Tryd.prog.cellsOf 3 = 1 := by kernel_rfl
  rcases open_ints Tryd.underlying36 Tryd.underlying3 ci h with ⟨hcs, _⟩ | ⟨x, l, c, zs, hcs, _, hl, hm, hzl, hx, hcell, hwz⟩
  · simp only [List.cons.injEq, and_true] at hcs
    exact ⟨none, 0, [], hcs, Nat.zero_le _, fun k hk => absurd hk List.not_mem_nil, fun i hi => absurd hi (Nat.not_lt_zero _)⟩
  · simp only [List.cons.injEq, and_true] at hcs
    have hlz : l ≤ zs.length := by split at hzl <;> omega
    have hlen : (zs.take l).length = l := by rw [List.length_take]; omega
    have hget : ∀ i, i < l → (zs.take l).getD i 0 = zs.getD i 0 := fun i hi => by simp [List.getD_eq_getElem?_getD, hi]
    refine ⟨some x, c, zs.take l, by rw [hlen]; exact hcs, by rw [hlen]; exact hl, fun k hk => i64_of_wf (hwz k (List.mem_of_mem_take hk)), fun i hi => ?_⟩
    rw [hlen] at hi
    obtain ⟨b, off, spot⟩ := x
    have hc := hcell i (by omega)
    have hspot : spot = none := by
      have := World.cell?_spot (hcell 0 (by omega))
      simpa [Addr.add] using this
    subst hspot
    rw [add_none] at hc
    exact ⟨b, off, rfl, block_lt_of_cell hc, by rw [hget i hi]; exact hc⟩
set_option maxRecDepth 100000 in
/-- a node, in three cells -/
theorem open_node3 {fuel : Nat} {v0 v1 v2 : Value} {y : DataW H × List MemPlace} (h : DataW.trod enc Tryd.prog w base spare held fuel 38 [v0, v1, v2] = some y) :
    ∃ n : Nd, v0 = .int .i64 n.kind ∧ v1 = .string n.txt ∧ v2 = .slice n.ka n.kids.length n.kc ∧ KidsAt w n := by
  have cs : Tryd.prog.cellsOf 9 = 1 := by kernel_rfl
  have ci : Tryd.prog.cellsOf 3 = 1 := by kernel_rfl
  have cl : Tryd.prog.cellsOf 36 = 1 := by kernel_rfl
  obtain ⟨f0, f1, f2, ht, t0, t1, t2, o0, o1, o2⟩ := nodeType
  obtain ⟨xs, k, hk, hxy, _, hxl, hff⟩ := DataW.trod_struct ht h
  match xs, hxl with
  | [y0, y1, y2], _ =>
    have g0 := hff 0 f0 rfl
    have g1 := hff 1 f1 rfl
    have g2 := hff 2 f2 rfl
    simp [o0, o1, o2, t0, t1, t2, ci, cs, cl] at g0 g1 g2
    obtain ⟨n0, e0, _, w0⟩ := DataW.trod_int Tryd.underlying3 g0
    obtain ⟨s1, e1, _, _⟩ := DataW.trod_string Tryd.underlying9 g1
    obtain ⟨A, c, zs, e2, hc, hw, hg⟩ := open_kids g2
    simp only [List.cons.injEq, and_true] at e0 e1
    exact ⟨⟨n0, s1, zs, A, c⟩, e0, e1, e2, hg, hc, hw, i64_of_wf w0⟩
set_option maxRecDepth 100000 in
/-- a row of nodes, in one cell -/
theorem open_nodes {fuel : Nat} {v : Value} {y : DataW H × List MemPlace} (h : DataW.trod enc Tryd.prog w base spare held fuel 22 [v] = some y) :
    ∃ (A : Option Addr) (c : Nat) (ns : List Nd), v = .slice A ns.length c ∧ ns.length ≤ c ∧ (∀ n ∈ ns, KidsAt w n) ∧
      ∀ i, i < ns.length → ∃ b off, A = some ⟨b, off, none⟩ ∧ b < w.heap.size ∧ w.cell? ⟨b, off + i * 3, none⟩ = some (.int .i64 (ns.getD i nd0).kind) ∧ w.cell? ⟨b, off + i * 3 + 1, none⟩ = some (.string (ns.getD i nd0).txt) ∧ w.cell? ⟨b, off + i * 3 + 2, none⟩ = some (.slice (ns.getD i nd0).ka (ns.getD i nd0).kids.length (ns.getD i nd0).kc) := by
  have ce : Tryd.prog.cellsOf 38 = 3 := by kernel_rfl
  rcases Deep.open_slice Tryd.underlying22 h with ⟨hcs, _⟩ | ⟨x, l, c, m, n, D, Pl, hcs, _, hl, hm, hmm, hx, hel⟩
  · simp only [List.cons.injEq, and_true] at hcs
    exact ⟨none, 0, [], hcs, Nat.zero_le _, fun k hk => absurd hk List.not_mem_nil, fun i hi => absurd hi (Nat.not_lt_zero _)⟩
  · simp only [List.cons.injEq, and_true] at hcs
    have hlm : l ≤ m := by rw [hmm]; split <;> omega
    have each : ∀ i, i < l → ∃ r : Nd, KidsAt w r ∧ w.cell? (x.add (i * 3)) = some (.int .i64 r.kind) ∧ w.cell? ((x.add (i * 3)).add 1) = some (.string r.txt) ∧ w.cell? ((x.add (i * 3)).add 2) = some (.slice r.ka r.kids.length r.kc) := by
      intro i hi
      obtain ⟨cs', h1, h2⟩ := hel i (by omega)
      rw [ce] at h1
      obtain ⟨_, hlen, hcell⟩ := World.cells?_some h1
      match cs', hlen with
      | [v0, v1, v2], _ =>
        obtain ⟨r, e0, e1, e2, hk⟩ := open_node3 h2
        have z0 := hcell 0 (by omega)
        have z1 := hcell 1 (by omega)
        have z2 := hcell 2 (by omega)
        subst e0 e1 e2
        exact ⟨r, hk, by simpa [Addr.add] using z0, by simpa using z1, by simpa using z2⟩
    obtain ⟨R, hR⟩ := Deep.choose_lt each
    have hlen : ((List.range l).map R).length = l := by simp
    have get : ∀ i, i < l → ((List.range l).map R).getD i nd0 = R i := fun i hi => by simp [List.getD_eq_getElem?_getD, hi]
    have hspot : 0 < l → ∃ b off, x = ⟨b, off, none⟩ := fun h0 => by
      obtain ⟨b, off, spot⟩ := x
      have hc := (hR 0 h0).2.1
      have : spot = none := by
        have := World.cell?_spot hc
        simpa [Addr.add] using this
      subst this
      exact ⟨b, off, rfl⟩
    by_cases h0 : 0 < l
    · obtain ⟨b, off, rfl⟩ := hspot h0
      refine ⟨some ⟨b, off, none⟩, c, (List.range l).map R, by rw [hlen]; exact hcs, by rw [hlen]; exact hl, fun k hk => ?_, fun i hi => ?_⟩
      · obtain ⟨i, hi, rfl⟩ := List.mem_map.1 hk
        exact (hR i (List.mem_range.1 hi)).1
      · rw [hlen] at hi
        obtain ⟨_, h1, h2, h3⟩ := hR i hi
        rw [add_none] at h1 h2 h3
        rw [add_none] at h2 h3
        exact ⟨b, off, rfl, block_lt_of_cell h1, by rw [get i hi]; exact h1, by rw [get i hi]; exact h2, by rw [get i hi]; exact h3⟩
    · obtain rfl : l = 0 := by omega
      exact ⟨some x, c, [], hcs, Nat.zero_le _, fun k hk => absurd hk List.not_mem_nil, fun i hi => absurd hi (Nat.not_lt_zero _)⟩
set_option maxRecDepth 100000 in
/-- a node that came in -/
theorem open_node {v : Value} {d : DataW H} {ps : List MemPlace} (hval : Value.okWide Tryd.prog W .any b0 38 v) (h : DataW.Trod enc Tryd.prog w base spare held 38 v d ps) :
    ∃ n : Nd, v = n.val ∧ KidsAt w n := by
  obtain ⟨cs, rfl, hcs⟩ := okWide_struct Tryd.underlying38 hval
  obtain ⟨fuel, hf⟩ := h
  have e : (Value.agg cs).cells = cs := by simp [Value.cells]
  rw [e] at hf
  have c3 : Tryd.prog.cellsOf 38 = 3 := by kernel_rfl
  rw [c3] at hcs
  obtain ⟨v0, v1, v2, rfl⟩ : ∃ v0 v1 v2, cs = #[v0, v1, v2] := by
    match cs, hcs with
    | ⟨[v0, v1, v2]⟩, _ => exact ⟨v0, v1, v2, rfl⟩
  obtain ⟨n, rfl, rfl, rfl, hk⟩ := open_node3 hf
  exact ⟨n, rfl, hk⟩
set_option maxRecDepth 100000 in
/-- what the form's own reach says of a node's text -/
theorem txt_reach {ts : List TypeId} {ds : List (DataW H)} (h : (DataW.weightsEach Tryd.prog ts ds).all (· ≤ reachBytes) = true) {j : Nat} {v : Value} {d : DataW H} {ps : List MemPlace} (hts : ts[j]? = some 38) (hds : ds[j]? = some d) {n : Nd} (e : v = n.val)
    (hr : DataW.Trod enc Tryd.prog w base spare held 38 v d ps) : n.txt.size ≤ 140737488351232 := by
  subst e
  obtain ⟨fuel, hf⟩ := hr
  have e : (n.val).cells.toList = [.int .i64 n.kind, .string n.txt, .slice n.ka n.kids.length n.kc] := by simp [Nd.val, Value.cells]
  rw [e] at hf
  have cs : Tryd.prog.cellsOf 9 = 1 := by kernel_rfl
  have ci : Tryd.prog.cellsOf 3 = 1 := by kernel_rfl
  have cl : Tryd.prog.cellsOf 36 = 1 := by kernel_rfl
  obtain ⟨f0, f1, f2, ht, t0, t1, t2, o0, o1, o2⟩ := nodeType
  obtain ⟨xs, k, hk, hxy, _, hxl, hff⟩ := DataW.trod_struct ht hf
  match xs, hxl with
  | [y0, y1, y2], _ =>
    have g0 := hff 0 f0 rfl
    have g1 := hff 1 f1 rfl
    simp [o0, o1, t0, t1, ci, cs] at g0 g1
    obtain ⟨s1, e1, h1, _⟩ := DataW.trod_string Tryd.underlying9 g1
    simp only [List.cons.injEq, and_true] at e1
    injection e1 with e1
    subst e1
    have hd : d = .agg [y0.1, y1.1, y2.1] := by
      have := congrArg Prod.fst hxy
      simpa using this
    have := List.all_eq_true.1 h _ (DataW.weights_mem_each hts hds n.txt.size (by
      rw [hd, h1]
      simp [DataW.weights, ht, DataW.weightsEach, t0, t1, t2]))
    unfold reachBytes at this
    simp at this
    omega
set_option maxRecDepth 100000 in
/-- a graph that came in -/
theorem open_graph {v : Value} {d : DataW H} {ps : List MemPlace} (hval : Value.okWide Tryd.prog W .any b0 24 v) (h : DataW.Trod enc Tryd.prog w base spare held 24 v d ps) :
    ∃ g : Gv, v = g.val ∧ GrIn w g := by
  obtain ⟨cs, rfl, hcs⟩ := okWide_struct Tryd.underlying24 hval
  obtain ⟨fuel, hf⟩ := h
  have e : (Value.agg cs).cells = cs := by simp [Value.cells]
  rw [e] at hf
  have c3 : Tryd.prog.cellsOf 24 = 2 := by kernel_rfl
  have ci : Tryd.prog.cellsOf 3 = 1 := by kernel_rfl
  have cl : Tryd.prog.cellsOf 22 = 1 := by kernel_rfl
  rw [c3] at hcs
  obtain ⟨v0, v1, rfl⟩ : ∃ v0 v1, cs = #[v0, v1] := by
    match cs, hcs with
    | ⟨[v0, v1]⟩, _ => exact ⟨v0, v1, rfl⟩
  obtain ⟨f0, f1, ht, t0, t1, o0, o1⟩ := graphType
  obtain ⟨xs, k, hk, hxy, _, hxl, hff⟩ := DataW.trod_struct ht hf
  match xs, hxl with
  | [y0, y1], _ =>
    have g0 := hff 0 f0 rfl
    have g1 := hff 1 f1 rfl
    simp [o0, o1, t0, t1, ci, cl] at g0 g1
    obtain ⟨A, c, ns, e0, hc, hn, hg⟩ := open_nodes g0
    obtain ⟨r, e1, _, w1⟩ := DataW.trod_int Tryd.underlying3 g1
    simp only [List.cons.injEq, and_true] at e1
    subst e0 e1
    exact ⟨⟨A, c, ns, r⟩, rfl, hg, hn, hc, i64_of_wf w1⟩
end
/-! ### the library's variables -/
theorem pin_first : Rows.laid_unicode_utf8_first = Lib.firstData := by kernel_rfl
theorem pin_accept : (Rows.laid_unicode_utf8_acceptRanges : DataW Unit) = Lib.acceptData := by kernel_rfl
theorem pin_pow : (Rows.laid_internal_strconv_uint64pow10 : DataW Unit) = Lib.tabData .u64 Lib.pow10Tab := by kernel_rfl
theorem iface_cell {P : Program} {H : Type} {enc : TypeId × Value → H} {w : World} {base : Nat} {spare : Nat → Bool} {held : Bool} {fuel : Nat} {t : TypeId} {ms : Array (String × TypeId)} {cs : List Value} {x : DataW H × List MemPlace} (ht : P.underlying t = some (.interface ms)) (h : DataW.trod enc P w base spare held fuel t cs = some x) : ∃ ev, cs = [ev] ∧ (ev = .nilIface ∨ ∃ te pe, ev = .iface te pe) := by
  cases fuel with
  | zero => simp [DataW.trod] at h
  | succ fuel =>
    match cs, h with
    | [], h => simp [DataW.trod, ht] at h
    | [v], h => cases v <;> first | exact ⟨_, rfl, Or.inl rfl⟩ | exact ⟨_, rfl, Or.inr ⟨_, _, rfl⟩⟩ | (simp [DataW.trod, ht] at h)
    | a :: b :: r, h => simp [DataW.trod, ht] at h
theorem err_of_reads {W : World} {n : String} {g : Nat} {d : DataW Unit} {ms : Array (String × TypeId)} {t : TypeId} (hn : Tryd.prog.globalNamed n = some g) (hg : (Tryd.prog.globals[g]?).map (·.type) = some t) (ht : Tryd.prog.underlying t = some (.interface ms)) (h : Lib.VarReads Tryd.prog W n d) : errCell W g := by
  obtain ⟨g', t', cs, fuel, p, h1, h2, h3, h4⟩ := h
  obtain rfl := Option.some.inj (hn.symm.trans h1)
  obtain rfl := Option.some.inj (hg.symm.trans h2)
  obtain ⟨ev, e, hv⟩ := iface_cell ht h4
  refine ⟨ev, ?_, hv⟩
  rw [World.var?_cell hn h3 0, ← Array.getElem?_toList, e]
  rfl
theorem pow_of_reads {W : World} (h : Lib.VarReads Tryd.prog W "internal/strconv.uint64pow10" (Lib.tabData .u64 Lib.pow10Tab)) : Lib.TabIs Tryd.prog W "internal/strconv.uint64pow10" .u64 Lib.pow10Tab := by
  obtain ⟨g', t', cs, fuel, p, h1, h2, h3, h4⟩ := h
  obtain rfl := Option.some.inj (powNamed.symm.trans h1)
  have hty : (Tryd.prog.globals[4]?).map (·.type) = some 141 := by kernel_rfl
  obtain rfl := Option.some.inj (hty.symm.trans h2)
  unfold Lib.TabIs
  rw [h3, ← Lib.cells_of_tab Tryd.underlying141 Tryd.underlying115 (by kernel_rfl) (by kernel_rfl) h4]
/-- this program's numbers for the decoder's types and variables -/
def u8ren : Go.Shelf.Ren := ⟨fun x => x, fun | 5 => 5 | 119 => 124 | 138 => 126 | 139 => 127 | n => n, fun | 3 => 2 | 4 => 3 | n => n⟩
theorem u8types : U8Types Tryd.prog u8ren := { t5 := Tryd.underlying5, t119 := Tryd.underlying124, t138 := Tryd.underlying126, t139 := Tryd.underlying127 }
theorem extra : U8Extra Tryd.prog u8ren := { n3 := by kernel_rfl, n4 := by kernel_rfl, y3 := by kernel_rfl, y4 := by kernel_rfl, c5 := by kernel_rfl, c119 := by kernel_rfl, c138 := by kernel_rfl }
theorem env_of_laid {W : World} (h : laidMetH Tryd.prog Rows.isoWithinRow.laid W) : Env W := by
  have h' : laidMet Tryd.prog [("math/bits.deBruijn32tab", Rows.laid_math_bits_deBruijn32tab), ("math/bits.deBruijn64tab", Rows.laid_math_bits_deBruijn64tab), ("internal/strconv.uint64pow10", Rows.laid_internal_strconv_uint64pow10), ("unicode/utf8.acceptRanges", Rows.laid_unicode_utf8_acceptRanges), ("strconv.ErrRange", Rows.laid_strconv_ErrRange), ("strconv.ErrSyntax", Rows.laid_strconv_ErrSyntax), ("unicode/utf8.first", Rows.laid_unicode_utf8_first)] W := h
  have h1 : Lib.VarReads Tryd.prog W "unicode/utf8.first" Lib.firstData := by
    rw [← pin_first]
    exact Lib.laidMet.reads h' (by simp)
  have h2 : Lib.VarReads Tryd.prog W "unicode/utf8.acceptRanges" Lib.acceptData := by
    rw [← pin_accept]
    exact Lib.laidMet.reads h' (by simp)
  have h3 : Lib.VarReads Tryd.prog W "internal/strconv.uint64pow10" (Lib.tabData .u64 Lib.pow10Tab) := by
    rw [← pin_pow]
    exact Lib.laidMet.reads h' (by simp)
  have h4 : Lib.VarReads Tryd.prog W "strconv.ErrRange" Rows.laid_strconv_ErrRange := Lib.laidMet.reads h' (by simp)
  have h5 : Lib.VarReads Tryd.prog W "strconv.ErrSyntax" Rows.laid_strconv_ErrSyntax := Lib.laidMet.reads h' (by simp)
  exact ⟨utf8Tabs_of_readsT u8types extra h1 h2, pow_of_reads h3, err_of_reads (by kernel_rfl) (by kernel_rfl) Tryd.underlying98 h5, err_of_reads (by kernel_rfl) (by kernel_rfl) Tryd.underlying98 h4⟩
end Go.Proofs.YtpgncjfmaeiaaaaDoor.Is
