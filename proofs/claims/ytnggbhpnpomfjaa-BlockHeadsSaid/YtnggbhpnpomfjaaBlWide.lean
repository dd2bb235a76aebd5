/- Walk: are rows too wide, or too many. Rows that came in. Conditions: none beyond the model's bounds. -/
import Derived.Test.YtnggbhpnpomfjaaBlRLines
import Derived.Test.YtnggbhpnpomfjaaBlOpen
import Derived.Deep.Slices
set_option linter.unusedVariables false
namespace Go.Proofs.Ytnggbhpnpomfjaa
open Go.RowKit Go.ChangeShapes Go.WideShapes Go.ChangeAt
/-- the sum of the bytes of the first rows, unless one of them is too wide -/
def wideAt (rs : List Rw) (k : Nat) : Bool := decide (300 < (rs.getD k rw0).col)
def wideB (rs : List Rw) : Bool := ((List.range (min rs.length 500)).any (wideAt rs)) || decide (500 < rs.length) || decide (20000 < bulkT (rs.take 500))
theorem wide_yes {rs : List Rw} {k : Nat} (h : k < min rs.length 500) (hw : wideAt rs k = true) : wideB rs = true := by
  unfold wideB
  rw [show (List.range (min rs.length 500)).any (wideAt rs) = true from List.any_eq_true.2 ⟨k, List.mem_range.2 h, hw⟩]
  rfl
theorem wide_no {rs : List Rw} (h : ∀ k, k < min rs.length 500 → wideAt rs k = false) : wideB rs = (decide (500 < rs.length) || decide (20000 < bulkT (rs.take 500))) := by
  unfold wideB
  rw [show (List.range (min rs.length 500)).any (wideAt rs) = false by
    rw [List.any_eq_false]
    intro k hk
    rw [h k (List.mem_range.1 hk)]
    simp]
  rfl
theorem wide_false {rs : List Rw} (h : wideB rs = false) : rs.length ≤ 500 ∧ bulkT rs ≤ 20000 := by
  unfold wideB at h
  simp only [Bool.or_eq_false_iff, decide_eq_false_iff_not] at h
  rw [List.take_of_length_le (by omega)] at h
  omega
theorem bulkT_each {rs : List Rw} (hz : ∀ r ∈ rs, r.txt.size ≤ 140737488355328) : ∀ k, k ≤ rs.length → bulkT (rs.take k) ≤ k * 140737488355328
  | 0, _ => by simp [bulkT]
  | k + 1, h => by
    have ih := bulkT_each hz k (by omega)
    have h1 := bulkT_at rs k (by omega)
    have h2 := hz (rs.getD k rw0) (by rw [List.getD_eq_getElem?_getD, List.getElem?_eq_getElem (by omega)]; exact List.getElem_mem _)
    omega
set_option maxRecDepth 100000 in
set_option maxHeartbeats 1600000 in
theorem wide_any (A : Option Addr) (c : Nat) (rs : List Rw) (w : World) (g : RowsIn w A c rs) (hz : ∀ r ∈ rs, r.txt.size ≤ 140737488355328) :
    Calls Try.prog 13 #[.slice A rs.length c] w fun e w' => e = .returned (.bool (wideB rs)) ∧ Below w.heap.size w w' := by
  have G := Lib.hid g
  have HZ := Lib.hid hz
  obtain ⟨m, hm⟩ : ∃ m, min rs.length 500 = m := ⟨_, rfl⟩
  have hmn : min (rs.length : Int) 500 = (m : Int) := by omega
  have hml : m ≤ rs.length := by omega
  have hmk : m ≤ 500 := by omega
  have hsl : ∀ W, (Instr.sliceAt 26 (.slice A rs.length c) none (some (.int .i64 (m : Int))) none).run Try.prog W = .ok (.slice A m c) W := fun W => rows_to A _ c m (by have := g.cap; omega) W
  have HT : Hid (rs.take m = rs.take 500) := by
    show _ = _
    rcases Nat.lt_or_ge 500 rs.length with h | h
    · rw [show m = 500 by omega]
    · rw [List.take_of_length_le (by omega), List.take_of_length_le (by omega)]
  have HM := Lib.hid hm
  clear g hz hm
  go_enter Try.func13, Try.ntmps13
  go_wp2_with fail
  go_loopw [3, 12] (fun u v wr => ∃ k : Nat, k ≤ m ∧ u = .int .i64 (bulkT (rs.take k) : Nat) ∧ v = .int .i64 (k : Nat) ∧ Hid (∀ j, j < k → wideAt rs j = false) ∧ Hid (Below w.heap.size w wr)) (fun _ v _ => m - (intOf v).toNat)
  case atStart => exact ⟨0, Nat.zero_le _, rfl, rfl, (fun j h => by omega), Below.refl _ _⟩
  case round =>
    obtain ⟨k, hk, rfl, rfl, hno, hb⟩ := hrel
    have hb1 := bulkT_each HZ.out k (by omega)
    by_cases hlt : k < m
    · have hlt' : (k : Int) < (m : Int) := by omega
      obtain ⟨b, off, hA, hbl, c0, c1, c2⟩ := (G.out.below hb.out).at_ k (by omega)
      have hb2 := bulkT_at rs k (by omega)
      have hz2 := HZ.out (rs.getD k rw0) (by rw [List.getD_eq_getElem?_getD, List.getElem?_eq_getElem (by omega)]; exact List.getElem_mem _)
      have HWA : Hid (wideAt rs k = decide (300 < (rs.getD k rw0).col)) := rfl
      generalize rs.getD k rw0 = r at c0 c1 c2 hb2 hz2 HWA
      generalize bulkT (rs.take k) = B at hb1 hb2 ⊢
      have HB2 := Lib.hid hb2
      have HK0 := Lib.hid (Kept.first wr 55 #[.int .i64 0, .string ⟨#[]⟩, .int .i64 0])
      have HK := Lib.hid (HK0.out.set #[.int .i64 r.col, .string r.txt, .int .i64 r.ln])
      have q0 := HK.out.cell 0
      have q1 := HK.out.cell 1
      have HBW := Lib.hid (hb.out.trans (HK.out.2.mono hb.out.size))
      clear hb2 hb
      subst hA
      by_cases hw : 300 < r.col
      · have hw' : decide (300 < r.col) = true := decide_eq_true hw
        have HV := Lib.hid (wide_yes (rs := rs) (k := k) (by have := HM.out; omega) (by rw [HWA.out, hw']))
        clear hno
        go_wp2_with (refine wpList_store_row rfl 55 _ _ rfl wr.heap.size #[.int .i64 r.col, .string r.txt, .int .i64 r.ln] rfl rfl 55 _ HK0.out.1 (by kernel_rfl) rfl (row_one _ _ _) ?_)
        go_ret
        exact ⟨by rw [HV.out]; rfl, HBW.out⟩
      · have hw' : decide (300 < r.col) = false := decide_eq_false hw
        have HN : Hid (∀ j, j < k + 1 → wideAt rs j = false) := fun j hj => by
          rcases Nat.lt_or_ge j k with h1 | h1
          · exact hno.out j h1
          · have : j = k := by omega
            subst this; rw [HWA.out, hw']
        clear hw hno
        go_wp2_with (refine wpList_store_row rfl 55 _ _ rfl wr.heap.size #[.int .i64 r.col, .string r.txt, .int .i64 r.ln] rfl rfl 55 _ HK0.out.1 (by kernel_rfl) rfl (row_one _ _ _) ?_)
        go_roundw
        case rel => exact ⟨k + 1, by omega, by rw [HB2.out]; go_num, by go_num, HN.out, HBW.out⟩
        case measure => simp [intOf]; omega
    · obtain rfl : m = k := by omega
      have HV : Hid (wideB rs = (decide (500 < rs.length) || decide (20000 < bulkT (rs.take m)))) := by show _ = _; rw [wide_no (fun j hj => hno.out j (by rw [← HM.out]; exact hj)), HT.out]
      generalize bulkT (rs.take m) = B at hb1 HV ⊢
      clear hno HT
      by_cases h1 : 500 < rs.length
      · have h1' : decide (500 < rs.length) = true := decide_eq_true h1
        have HV2 : Hid (wideB rs = true) := by show _ = _; rw [HV.out, h1']; rfl
        go_wp2_with fail
        go_ret
        exact ⟨by rw [HV2.out]; rfl, hb.out⟩
      · have h1' : decide (500 < rs.length) = false := decide_eq_false h1
        have HVI : Hid (wideB rs = (decide ((500 : Int) < (rs.length : Int)) || decide ((20000 : Int) < (B : Int)))) := by
          show _ = _
          rw [HV.out]
          congr 1 <;> exact decide_eq_decide.2 (by omega)
        go_wp2_with fail
        go_ret
        exact ⟨by rw [HVI.out]; rfl, hb.out⟩
instance : Inhabited Rw := ⟨rw0⟩
section
variable {H : Type} {enc : TypeId × Value → H} {w : World} {base : Nat} {spare : Nat → Bool} {held : Bool}

def rowD (r : Rw) : DataW H := .agg [.lit (.int .i64 r.col), .lit (.string r.txt.data.toList), .lit (.int .i64 r.ln)]
theorem rowType : ∃ f0 f1 f2 : Field, Try.prog.underlying 55 = some (.struct #[f0, f1, f2]) ∧ f0.type = 3 ∧ f1.type = 9 ∧ f2.type = 3 ∧ f0.offset = 0 ∧ f1.offset = 1 ∧ f2.offset = 2 := ⟨_, _, _, Try.underlying55, rfl, rfl, rfl, rfl, rfl, rfl⟩
/-- rows that came in -/
theorem open_rows {a : Option Addr} {len cap : Nat} {d : DataW H} {ps : List MemPlace} (h : DataW.Trod enc Try.prog w base spare held 26 (.slice a len cap) d ps) :
    ∃ rs : List Rw, rs.length = len ∧ RowsIn w a cap rs ∧ (rs = [] ∨ ∃ sp, d = .slice (rs.map rowD) sp) := by
  obtain ⟨fuel, hf⟩ := h
  obtain ⟨f0, f1, f2, ht, t0, t1, t2, o0, o1, o2⟩ := rowType
  have ce : Try.prog.cellsOf 55 = 3 := by kernel_rfl
  have ci : Try.prog.cellsOf 3 = 1 := by kernel_rfl
  have cs : Try.prog.cellsOf 9 = 1 := by kernel_rfl
  rcases Deep.open_slice Try.underlying26 hf with ⟨hcs, _⟩ | ⟨x, l, c, m, n, D, Pl, hcs, _, hl, hm, hmm, hx, hel⟩
  · simp [Value.cells] at hcs
    obtain ⟨rfl, rfl, rfl⟩ := hcs
    exact ⟨[], rfl, ⟨fun i hi => by simp at hi, fun i hi => by simp at hi, Nat.zero_le _⟩, Or.inl rfl⟩
  · simp [Value.cells] at hcs
    obtain ⟨rfl, rfl, rfl⟩ := hcs
    have hlm : len ≤ m := by rw [hmm]; split <;> omega
    have each : ∀ i, i < len → ∃ r : Rw, r.ok ∧ w.cell? (x.add (i * 3)) = some (.int .i64 r.col) ∧ w.cell? ((x.add (i * 3)).add 1) = some (.string r.txt) ∧ w.cell? ((x.add (i * 3)).add 2) = some (.int .i64 r.ln) ∧ D i = rowD r := by
      intro i hi
      obtain ⟨cs', h1, h2⟩ := hel i (by omega)
      rw [ce] at h1
      obtain ⟨_, hlen, hcell⟩ := World.cells?_some h1
      obtain ⟨xs, k, hk, hxy, _, hxl, hff⟩ := DataW.trod_struct ht h2
      match xs, hxl, cs', hlen with
      | [y0, y1, y2], _, [v0, v1, v2], _ =>
        have g0 := hff 0 f0 rfl
        have g1 := hff 1 f1 rfl
        have g2 := hff 2 f2 rfl
        simp [o0, o1, o2, t0, t1, t2, ci, cs] at g0 g1 g2
        obtain ⟨n0, e0, rfl, w0⟩ := DataW.trod_int Try.underlying3 g0
        obtain ⟨s1, e1, rfl, _⟩ := DataW.trod_string Try.underlying9 g1
        obtain ⟨n2, e2, rfl, w2⟩ := DataW.trod_int Try.underlying3 g2
        simp only [List.cons.injEq, and_true] at e0 e1 e2
        subst e0 e1 e2
        have z0 := hcell 0 (by omega)
        have z1 := hcell 1 (by omega)
        have z2 := hcell 2 (by omega)
        have b0 := i64_of_wf w0
        have b2 := i64_of_wf w2
        refine ⟨⟨n0, s1, n2⟩, ⟨b0.1, b0.2, b2.1, b2.2⟩, by simpa [Addr.add] using z0, by simpa using z1, by simpa using z2, ?_⟩
        have := congrArg Prod.fst hxy
        simpa [rowD] using this
    obtain ⟨R, hR⟩ := Deep.choose_lt each
    refine ⟨(List.range len).map R, by simp, ⟨fun i hi => ?_, fun i hi => ?_, by simpa using hl⟩, Or.inr ⟨(List.range (m - len)).map fun j => D (len + j), ?_⟩⟩
    · have hi' : i < len := by simpa using hi
      have e : ((List.range len).map R).getD i rw0 = R i := by simp [List.getD_eq_getElem?_getD, hi']
      obtain ⟨_, h1, h2, h3, _⟩ := hR i hi'
      obtain ⟨b, off, spot⟩ := x
      have h0 := (hR 0 (by omega)).2.1
      have hspot : spot = none := by
        have := World.cell?_spot h0
        simpa [Addr.add] using this
      subst hspot
      have hadd : ∀ o k, (⟨b, o, none⟩ : Addr).add k = ⟨b, o + k, none⟩ := by intro o k; unfold Addr.add; split <;> simp_all
      rw [hadd] at h1 h2 h3
      rw [hadd] at h2 h3
      exact ⟨b, off, rfl, block_lt_of_cell h1, by rw [e]; exact h1, by rw [e]; exact h2, by rw [e]; exact h3⟩
    · have hi' : i < len := by simpa using hi
      have e : ((List.range len).map R).getD i rw0 = R i := by simp [List.getD_eq_getElem?_getD, hi']
      rw [e]
      exact (hR i hi').1
    · have := congrArg Prod.fst hx
      simp only at this
      rw [this]
      congr 1
      rw [List.map_map]
      refine List.map_congr_left fun i hi => ?_
      exact (hR i (List.mem_range.1 hi)).2.2.2.2
theorem rows_reach {ts : List TypeId} {ds : List (DataW H)} (h : (DataW.weightsEach Try.prog ts ds).all (· ≤ reachBytes) = true) {j : Nat} {d : DataW H} {rs : List Rw} (ht : ts[j]? = some 26) (hd : ds[j]? = some d) (hs : rs = [] ∨ ∃ sp, d = .slice (rs.map rowD) sp) : ∀ r ∈ rs, r.txt.size ≤ 140737488355328 := by
  intro r hm
  rcases hs with rfl | ⟨sp, rfl⟩
  · cases hm
  · have := elems_reach h ht hd Try.underlying26 r.txt.size (weightsAll_mem (d := rowD r) (List.mem_map.2 ⟨r, hm, rfl⟩) (by
      obtain ⟨f0, f1, f2, ht, t0, t1, t2, _⟩ := rowType
      simp [DataW.weights, rowD, ht, DataW.weightsEach, t0, t1, t2]))
    unfold reachBytes at this
    omega
end
end Go.Proofs.Ytnggbhpnpomfjaa
