/- From the row's list and the arguments' readings to what layer 2's walks ask: rows that came in, their number, their bulk. Conditions: none. -/
import Derived.Test.YtnggbhpnpomfjaaDoorUtOpen
import Derived.Test.YtnggbhpnpomfjaaDoorBlOpenD
import Derived.Test.YtnggbhpnpomfjaaDoorRwSame
import Derived.Deep.Slices
set_option linter.unusedVariables false
namespace Go.Proofs.YtnggbhpnpomfjaaDoor.Bl
open Go.RowKit Go.ChangeShapes Go.WideShapes Go.ChangeAt
instance : Inhabited Rw := ⟨rw0⟩
section
variable {H : Type} {enc : TypeId × Value → H} {w : World} {base : Nat} {spare : Nat → Bool} {held : Bool}

def rowD (r : Rw) : DataW H := .agg [.lit (.int .i64 r.col), .lit (.string r.txt.data.toList), .lit (.int .i64 r.ln)]
set_option maxRecDepth 100000 in
theorem rowType : ∃ f0 f1 f2 : Field, Tryd.prog.underlying 53 = some (.struct #[f0, f1, f2]) ∧ f0.type = 3 ∧ f1.type = 9 ∧ f2.type = 3 ∧ f0.offset = 0 ∧ f1.offset = 1 ∧ f2.offset = 2 := ⟨_, _, _, Tryd.underlying53, rfl, rfl, rfl, rfl, rfl, rfl⟩
set_option maxRecDepth 100000 in
/-- rows that came in -/
theorem open_rows {a : Option Addr} {len cap : Nat} {d : DataW H} {ps : List MemPlace} (h : DataW.Trod enc Tryd.prog w base spare held 44 (.slice a len cap) d ps) :
    ∃ rs : List Rw, rs.length = len ∧ RowsIn w a cap rs ∧ (rs = [] ∨ ∃ sp, d = .slice (rs.map rowD) sp) := by
  obtain ⟨fuel, hf⟩ := h
  obtain ⟨f0, f1, f2, ht, t0, t1, t2, o0, o1, o2⟩ := rowType
  have ce : Tryd.prog.cellsOf 53 = 3 := by kernel_rfl
  have ci : Tryd.prog.cellsOf 3 = 1 := by kernel_rfl
  have cs : Tryd.prog.cellsOf 9 = 1 := by kernel_rfl
  rcases Deep.open_slice Tryd.underlying44 hf with ⟨hcs, _⟩ | ⟨x, l, c, m, n, D, Pl, hcs, _, hl, hm, hmm, hx, hel⟩
  · simp [Value.cells] at hcs
    obtain ⟨rfl, rfl, rfl⟩ := hcs
    exact ⟨[], rfl, ⟨fun i hi => by simp at hi, fun i hi => by simp at hi, Nat.zero_le _⟩, Or.inl rfl⟩
  · simp [Value.cells] at hcs
    obtain ⟨rfl, rfl, rfl⟩ := hcs
    have hlm : len ≤ m := by rw [hmm]; split <;> omega
    have each : ∀ i, i < len → ∃ r : Rw, r.ok ∧ w.cell? (x.add (i * 3)) = some (.int .i64 r.col) ∧ w.cell? ((x.add (i * 3)).add 1) = some (.string r.txt) ∧ w.cell? ((x.add (i * 3)).add 2) = some (.int .i64 r.ln) ∧ D i = rowD r := by
      intro i hi
      obtain ⟨cs', h1, h2⟩ := hel i (by omega)
      rw [ce] at h1
      obtain ⟨_, hlen, hcell⟩ := World.cells?_some h1
      obtain ⟨xs, k, hk, hxy, _, hxl, hff⟩ := DataW.trod_struct ht h2
      match xs, hxl, cs', hlen with
      | [y0, y1, y2], _, [v0, v1, v2], _ =>
        have g0 := hff 0 f0 rfl
        have g1 := hff 1 f1 rfl
        have g2 := hff 2 f2 rfl
        simp [o0, o1, o2, t0, t1, t2, ci, cs] at g0 g1 g2
        obtain ⟨n0, e0, rfl, w0⟩ := DataW.trod_int Tryd.underlying3 g0
        obtain ⟨s1, e1, rfl, _⟩ := DataW.trod_string Tryd.underlying9 g1
        obtain ⟨n2, e2, rfl, w2⟩ := DataW.trod_int Tryd.underlying3 g2
        simp only [List.cons.injEq, and_true] at e0 e1 e2
        subst e0 e1 e2
        have z0 := hcell 0 (by omega)
        have z1 := hcell 1 (by omega)
        have z2 := hcell 2 (by omega)
        have b0 := i64_of_wf w0
        have b2 := i64_of_wf w2
        refine ⟨⟨n0, s1, n2⟩, ⟨b0.1, b0.2, b2.1, b2.2⟩, by simpa [Addr.add] using z0, by simpa using z1, by simpa using z2, ?_⟩
        have := congrArg Prod.fst hxy
        simpa [rowD] using this
    obtain ⟨R, hR⟩ := Deep.choose_lt each
    refine ⟨(List.range len).map R, by simp, ⟨fun i hi => ?_, fun i hi => ?_, by simpa using hl⟩, Or.inr ⟨(List.range (m - len)).map fun j => D (len + j), ?_⟩⟩
    · have hi' : i < len := by simpa using hi
      have e : ((List.range len).map R).getD i rw0 = R i := by simp [List.getD_eq_getElem?_getD, hi']
      obtain ⟨_, h1, h2, h3, _⟩ := hR i hi'
      obtain ⟨b, off, spot⟩ := x
      have h0 := (hR 0 (by omega)).2.1
      have hspot : spot = none := by
        have := World.cell?_spot h0
        simpa [Addr.add] using this
      subst hspot
      have hadd : ∀ o k, (⟨b, o, none⟩ : Addr).add k = ⟨b, o + k, none⟩ := by intro o k; unfold Addr.add; split <;> simp_all
      rw [hadd] at h1 h2 h3
      rw [hadd] at h2 h3
      exact ⟨b, off, rfl, block_lt_of_cell h1, by rw [e]; exact h1, by rw [e]; exact h2, by rw [e]; exact h3⟩
    · have hi' : i < len := by simpa using hi
      have e : ((List.range len).map R).getD i rw0 = R i := by simp [List.getD_eq_getElem?_getD, hi']
      rw [e]
      exact (hR i hi').1
    · have := congrArg Prod.fst hx
      simp only at this
      rw [this]
      congr 1
      rw [List.map_map]
      refine List.map_congr_left fun i hi => ?_
      exact (hR i (List.mem_range.1 hi)).2.2.2.2
set_option maxRecDepth 100000 in
theorem rows_reach {ts : List TypeId} {ds : List (DataW H)} (h : (DataW.weightsEach Tryd.prog ts ds).all (· ≤ reachBytes) = true) {j : Nat} {d : DataW H} {rs : List Rw} (ht : ts[j]? = some 44) (hd : ds[j]? = some d) (hs : rs = [] ∨ ∃ sp, d = .slice (rs.map rowD) sp) : ∀ r ∈ rs, r.txt.size ≤ 140737488355328 := by
  intro r hm
  rcases hs with rfl | ⟨sp, rfl⟩
  · cases hm
  · have := elems_reach h ht hd Tryd.underlying44 r.txt.size (weightsAll_mem (d := rowD r) (List.mem_map.2 ⟨r, hm, rfl⟩) (by
      obtain ⟨f0, f1, f2, ht, t0, t1, t2, _⟩ := rowType
      simp [DataW.weights, rowD, ht, DataW.weightsEach, t0, t1, t2]))
    unfold reachBytes at this
    omega
set_option maxRecDepth 100000 in
theorem rows_len {ts : List TypeId} {ds : List (DataW H)} (h : (DataW.weightsEach Tryd.prog ts ds).all (· ≤ reachBytes) = true) {j : Nat} {d : DataW H} {rs : List Rw} (ht : ts[j]? = some 44) (hd : ds[j]? = some d) (hs : rs = [] ∨ ∃ sp, d = .slice (rs.map rowD) sp) : rs.length ≤ 17592186044416 := by
  rcases hs with rfl | ⟨sp, rfl⟩
  · exact Nat.zero_le _
  · have hw := sized_slice h ht hd Tryd.underlying44
    rw [show Tryd.prog.bytesOf 53 = 32 by kernel_rfl] at hw
    unfold reachBytes at hw
    simp at hw
    omega
theorem rows_bulk {d : DataW H} {rs : List Rw} {K : Nat} (hs : rs = [] ∨ ∃ sp, d = .slice (rs.map rowD) sp) (h : Rows.uptoBulk d ≤ K) : bulkT rs ≤ K ∧ rs.length ≤ K := by
  have key : ∀ rs : List Rw, bulkT rs + rs.length ≤ Rows.uptoBulkAll (H := H) (rs.map rowD) := by
    intro rs
    induction rs with
    | nil => simp [bulkT]
    | cons r rs ih =>
      rw [List.map_cons]
      simp only [Rows.uptoBulkAll]
      have h1 : r.txt.size + 1 ≤ Rows.uptoBulk (rowD (H := H) r) := by
        unfold rowD
        simp only [Rows.uptoBulk, Rows.uptoBulkAll]
        have : r.txt.data.toList.length = r.txt.size := rfl
        omega
      unfold bulkT at *
      rw [List.map_cons, List.sum_cons, List.length_cons]
      omega
  rcases hs with rfl | ⟨sp, rfl⟩
  · exact ⟨Nat.zero_le _, Nat.zero_le _⟩
  · have := key rs
    simp only [Rows.uptoBulk] at h
    omega
end
end Go.Proofs.YtnggbhpnpomfjaaDoor.Bl
