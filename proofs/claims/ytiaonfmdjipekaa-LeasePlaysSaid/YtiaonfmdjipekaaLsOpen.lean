/- From the arguments' readings to what the walks ask: a call, a row of calls. Conditions: none. -/
import Derived.Test.YtiaonfmdjipekaaLsAlive
import Derived.SliceStrings
import Derived.OpenShut
import Derived.ShutString
import Derived.ChangeOld
import Derived.SizedLaws
import Derived.Deep.Slices
set_option linter.unusedVariables false
namespace Go.Proofs.Ytiaonfmdjipekaa.Ls
open Go.ChangeShapes Go.WideShapes Go.ChangeAt Go.RowKit
theorem i64_of_wf {n : Int} (h : (Lit.int .i64 n).wf = true) : -9223372036854775808 ≤ n ∧ n ≤ 9223372036854775807 := by
  simpa [Lit.wf, IntKind.min, IntKind.max, IntKind.signed, IntKind.bits] using h
theorem byte_of_wf {n : Int} (h : (Lit.int .u8 n).wf = true) : 0 ≤ n ∧ n < 256 := by
  have : 0 ≤ n ∧ n ≤ 255 := by simpa [Lit.wf, IntKind.min, IntKind.max, IntKind.signed, IntKind.bits] using h
  omega
theorem u16_of_wf {n : Int} (h : (Lit.int .u16 n).wf = true) : 0 ≤ n ∧ n < 65536 := by
  have : 0 ≤ n ∧ n ≤ 65535 := by simpa [Lit.wf, IntKind.min, IntKind.max, IntKind.signed, IntKind.bits] using h
  omega
/-- a call -/
structure AV where
  k : Int
  id : Int
  til : Int
def AV.ok (a : AV) : Prop := (0 ≤ a.k ∧ a.k < 256) ∧ wf64 a.id ∧ wf64 a.til
def av0 : AV := ⟨0, 0, 0⟩
instance : Inhabited AV := ⟨av0⟩
def AV.val (a : AV) : Value := .agg #[.int .u8 a.k, .int .i64 a.id, .int .i64 a.til]
structure ActsIn (w : World) (A : Option Addr) (cap : Nat) (l : List AV) : Prop where
  at_ : ∀ i, i < l.length → ∃ b off, A = some ⟨b, off, none⟩ ∧ b < w.heap.size ∧ w.cell? ⟨b, off + i * 3, none⟩ = some (.int .u8 (l.getD i av0).k) ∧ w.cell? ⟨b, off + i * 3 + 1, none⟩ = some (.int .i64 (l.getD i av0).id) ∧ w.cell? ⟨b, off + i * 3 + 2, none⟩ = some (.int .i64 (l.getD i av0).til)
  ok : ∀ a ∈ l, a.ok
  cap_ : l.length ≤ cap
section
variable {H : Type} {enc : TypeId × Value → H} {w W : World} {b0 base : Nat} {spare : Nat → Bool} {held : Bool}
set_option maxRecDepth 100000 in
theorem actType : ∃ f0 f1 f2 : Field, Try.prog.underlying 27 = some (.struct #[f0, f1, f2]) ∧ f0.type = 5 ∧ f1.type = 3 ∧ f2.type = 3 ∧ f0.offset = 0 ∧ f1.offset = 1 ∧ f2.offset = 2 := ⟨_, _, _, Try.underlying27, rfl, rfl, rfl, rfl, rfl, rfl⟩
set_option maxRecDepth 100000 in
theorem open_act {v : Value} {d : DataW H} {ps : List MemPlace} (hval : Value.okWide Try.prog W .any b0 27 v) (h : DataW.Trod enc Try.prog w base spare held 27 v d ps) :
    ∃ a : AV, v = a.val ∧ a.ok := by
  obtain ⟨cs, rfl, hcs⟩ := okWide_struct Try.underlying27 hval
  obtain ⟨fuel, hf⟩ := h
  have e : (Value.agg cs).cells = cs := by simp [Value.cells]
  rw [e] at hf
  have c3 : Try.prog.cellsOf 27 = 3 := by kernel_rfl
  have cb : Try.prog.cellsOf 5 = 1 := by kernel_rfl
  have ci : Try.prog.cellsOf 3 = 1 := by kernel_rfl
  rw [c3] at hcs
  obtain ⟨f0, f1, f2, ht, t0, t1, t2, o0, o1, o2⟩ := actType
  obtain ⟨xs, k, hk, hxy, _, hxl, hff⟩ := DataW.trod_struct ht hf
  obtain ⟨v0, v1, v2, rfl⟩ : ∃ v0 v1 v2, cs = #[v0, v1, v2] := by
    match cs, hcs with
    | ⟨[v0, v1, v2]⟩, _ => exact ⟨v0, v1, v2, rfl⟩
  match xs, hxl with
  | [y0, y1, y2], _ =>
    have g0 := hff 0 f0 rfl
    have g1 := hff 1 f1 rfl
    have g2 := hff 2 f2 rfl
    simp [o0, o1, o2, t0, t1, t2, ci, cb] at g0 g1 g2
    obtain ⟨n0, e0, _, w0⟩ := DataW.trod_int Try.underlying5 g0
    obtain ⟨n1, e1, _, w1⟩ := DataW.trod_int Try.underlying3 g1
    obtain ⟨n2, e2, _, w2⟩ := DataW.trod_int Try.underlying3 g2
    simp only [List.cons.injEq, and_true] at e0 e1 e2
    subst e0 e1 e2
    have := i64_of_wf w1
    have := i64_of_wf w2
    exact ⟨⟨n0, n1, n2⟩, rfl, byte_of_wf w0, by unfold wf64; simp only; omega, by unfold wf64; simp only; omega⟩
structure ActsArg where
  A : Option Addr
  cap : Nat
  l : List AV
set_option maxRecDepth 100000 in
theorem open_acts {v : Value} {d : DataW H} {ps : List MemPlace} (hval : Value.okWide Try.prog W .any b0 22 v) (h : DataW.Trod enc Try.prog w base spare held 22 v d ps) :
    ∃ x : ActsArg, v = .slice x.A x.l.length x.cap ∧ ActsIn w x.A x.cap x.l := by
  obtain ⟨a, len, cap, rfl⟩ := okWide_slice Try.underlying22 hval
  obtain ⟨fuel, hf⟩ := h
  obtain ⟨f0, f1, f2, ht, t0, t1, t2, o0, o1, o2⟩ := actType
  have ce : Try.prog.cellsOf 27 = 3 := by kernel_rfl
  have cb : Try.prog.cellsOf 5 = 1 := by kernel_rfl
  have ci : Try.prog.cellsOf 3 = 1 := by kernel_rfl
  rcases Deep.open_slice Try.underlying22 hf with ⟨hcs, _⟩ | ⟨x, l, c, m, n, D, Pl, hcs, _, hl, hm, hmm, hx, hel⟩
  · simp [Value.cells] at hcs
    obtain ⟨rfl, rfl, rfl⟩ := hcs
    exact ⟨⟨none, 0, []⟩, rfl, ⟨fun i hi => by simp at hi, fun i hi => by simp at hi, Nat.zero_le _⟩⟩
  · simp [Value.cells] at hcs
    obtain ⟨rfl, rfl, rfl⟩ := hcs
    have hlm : len ≤ m := by rw [hmm]; split <;> omega
    have each : ∀ i, i < len → ∃ r : AV, r.ok ∧ w.cell? (x.add (i * 3)) = some (.int .u8 r.k) ∧ w.cell? ((x.add (i * 3)).add 1) = some (.int .i64 r.id) ∧ w.cell? ((x.add (i * 3)).add 2) = some (.int .i64 r.til) := by
      intro i hi
      obtain ⟨cs', h1, h2⟩ := hel i (by omega)
      rw [ce] at h1
      obtain ⟨_, hlen, hcell⟩ := World.cells?_some h1
      obtain ⟨xs, k, hk, hxy, _, hxl, hff⟩ := DataW.trod_struct ht h2
      match xs, hxl, cs', hlen with
      | [y0, y1, y2], _, [v0, v1, v2], _ =>
        have g0 := hff 0 f0 rfl
        have g1 := hff 1 f1 rfl
        have g2 := hff 2 f2 rfl
        simp [o0, o1, o2, t0, t1, t2, ci, cb] at g0 g1 g2
        obtain ⟨n0, e0, _, w0⟩ := DataW.trod_int Try.underlying5 g0
        obtain ⟨n1, e1, _, w1⟩ := DataW.trod_int Try.underlying3 g1
        obtain ⟨n2, e2, _, w2⟩ := DataW.trod_int Try.underlying3 g2
        simp only [List.cons.injEq, and_true] at e0 e1 e2
        subst e0 e1 e2
        have z0 := hcell 0 (by omega)
        have z1 := hcell 1 (by omega)
        have z2 := hcell 2 (by omega)
        have := i64_of_wf w1
        have := i64_of_wf w2
        exact ⟨⟨n0, n1, n2⟩, ⟨byte_of_wf w0, by unfold wf64; simp only; omega, by unfold wf64; simp only; omega⟩, by simpa [Addr.add] using z0, by simpa using z1, by simpa using z2⟩
    obtain ⟨R, hR⟩ := Deep.choose_lt each
    refine ⟨⟨some x, cap, (List.range len).map R⟩, by simp, ⟨fun i hi => ?_, fun a ha => ?_, by simpa using hl⟩⟩
    · have hi' : i < len := by simpa using hi
      have e : ((List.range len).map R).getD i av0 = R i := by simp [List.getD_eq_getElem?_getD, hi']
      obtain ⟨_, h1, h2, h3⟩ := hR i hi'
      obtain ⟨b, off, spot⟩ := x
      have h0 := (hR 0 (by omega)).2.1
      have hspot : spot = none := by
        have := World.cell?_spot h0
        simpa [Addr.add] using this
      subst hspot
      have hadd : ∀ o k, (⟨b, o, none⟩ : Addr).add k = ⟨b, o + k, none⟩ := by intro o k; unfold Addr.add; split <;> simp_all
      rw [hadd] at h1 h2 h3
      rw [hadd] at h2 h3
      refine ⟨b, off, rfl, block_lt_of_cell h1, ?_, ?_, ?_⟩
      · show w.cell? _ = some (.int .u8 (((List.range len).map R).getD i av0).k)
        rw [e]; exact h1
      · show w.cell? _ = some (.int .i64 (((List.range len).map R).getD i av0).id)
        rw [e]; exact h2
      · show w.cell? _ = some (.int .i64 (((List.range len).map R).getD i av0).til)
        rw [e]; exact h3
    · obtain ⟨i, hi, rfl⟩ := List.mem_map.1 ha
      exact (hR i (List.mem_range.1 hi)).1
end
end Go.Proofs.Ytiaonfmdjipekaa.Ls
