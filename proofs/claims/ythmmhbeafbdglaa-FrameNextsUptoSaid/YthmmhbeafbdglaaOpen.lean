import Derived.Test.YthmmhbeafbdglaaCrcSum
import Derived.ProofKit
import Derived.OpenShut
import Derived.ShutString
import Derived.ChangeOld
import Derived.Below
import Derived.Deep.Matrix
import Derived.SizedLaws
namespace Go.Proofs.Ythmmhbeafbdglaa
/-- bytes that came in, as the frame hands them over -/
structure BytesIn (w : World) (A : Option Addr) (c : Nat) (bs : List Nat) : Prop where
  bytes : AllBytes bs
  at_ : BytesAt w A bs
  cap : bs.length ≤ c
  len : bs.length ≤ 9223372036854775807
  nil_ : A = none → c = 0
theorem BytesIn.below {w w' : World} {A : Option Addr} {cap : Nat} {bs : List Nat} (g : BytesIn w A cap bs) (hb : RowKit.Below w.heap.size w w') : BytesIn w' A cap bs := ⟨g.bytes, g.at_.below hb, g.cap, g.len, g.nil_⟩
theorem BytesIn.part {w : World} {A : Option Addr} {cap : Nat} {bs : List Nat} (g : BytesIn w A cap bs) : PartOk w ⟨A, cap, bs⟩ := ⟨g.bytes, g.len, g.at_, g.cap, g.nil_⟩
theorem PartOk.into {w : World} {p : Part} (h : PartOk w p) : BytesIn w p.A p.cap p.bs := ⟨h.bytes, h.at_, h.cap, h.len, h.nil_⟩
open Go.ChangeShapes Go.WideShapes Go.ChangeAt Go.RowKit
section
variable {H : Type} {enc : TypeId × Value → H} {P : Program} {w : World} {base : Nat} {spare : Nat → Bool} {held : Bool}
theorem byte_of_wf {n : Int} (h : (Lit.int .u8 n).wf = true) : 0 ≤ n ∧ n < 256 := by
  have h' : 0 ≤ n ∧ n ≤ 255 := by simpa [Lit.wf, IntKind.min, IntKind.max, IntKind.signed, IntKind.bits] using h
  omega
theorem u32_of_wf {n : Int} (h : (Lit.int .u32 n).wf = true) : 0 ≤ n ∧ n < 4294967296 := by
  have h' : 0 ≤ n ∧ n ≤ 4294967295 := by simpa [Lit.wf, IntKind.min, IntKind.max, IntKind.signed, IntKind.bits] using h
  omega
theorem i64_of_wf {n : Int} (h : (Lit.int .i64 n).wf = true) : -9223372036854775808 ≤ n ∧ n ≤ 9223372036854775807 := by
  simpa [Lit.wf, IntKind.min, IntKind.max, IntKind.signed, IntKind.bits] using h
/-- numbers that lie in a row, as bytes -/
theorem bytesAt_of_ints {a : Addr} {len : Nat} {zs : List Int} (hl : len ≤ zs.length) (hcell : ∀ i, i < zs.length → w.cell? (a.add i) = some (.int .u8 (zs.getD i 0))) (hwf : ∀ n ∈ zs, (Lit.int .u8 n).wf = true) :
    AllBytes ((zs.take len).map Int.toNat) ∧ BytesAt w (some a) ((zs.take len).map Int.toNat) := by
  refine ⟨?_, ?_⟩
  · intro c hc
    obtain ⟨n, hn, rfl⟩ := List.mem_map.1 hc
    have := byte_of_wf (hwf n (List.mem_of_mem_take hn))
    omega
  · by_cases h0 : len = 0
    · left; subst h0; simp
    · right
      obtain ⟨b, off, spot⟩ := a
      have hc := hcell 0 (by omega)
      have hspot : spot = none := by simpa [Addr.add] using World.cell?_spot hc
      subst hspot
      have hadd : ∀ i, (⟨b, off, none⟩ : Addr).add i = ⟨b, off + i, none⟩ := by intro i; unfold Addr.add; split <;> simp_all
      have hlt := block_lt_of_cell hc
      rw [hadd] at hlt
      refine ⟨b, off, rfl, hlt, fun i hi => ?_⟩
      have hi' : i < len := by simp at hi; omega
      have := hcell i (by omega)
      rw [hadd] at this
      rw [this]
      have hmem : zs.getD i 0 ∈ zs := by rw [List.getD_eq_getElem?_getD, List.getElem?_eq_getElem (by omega)]; exact List.getElem_mem (by omega)
      have hb := byte_of_wf (hwf _ hmem)
      have e : ((zs.take len).map Int.toNat).getD i 0 = (zs.getD i 0).toNat := by
        simp [List.getD_eq_getElem?_getD, hi', List.getElem?_map]
        rw [List.getElem?_eq_getElem (by omega)]; simp
      rw [e]
      congr 2
      omega
theorem open_bytes {t e : TypeId} {a : Option Addr} {len cap : Nat} {d : DataW H} {ps : List MemPlace} (ht : P.underlying t = some (.slice e)) (he : P.underlying e = some (.int .u8)) (ce : P.cellsOf e = 1)
    (h : DataW.Trod enc P w base spare held t (.slice a len cap) d ps) : ∃ bs : List Nat, bs.length = len ∧ BytesIn w a cap bs ∧ (len = 0 ∨ ∃ el sp, d = .slice el sp ∧ len ≤ el.length) := by
  obtain ⟨fuel, hf⟩ := h
  rcases open_ints ht he ce hf with ⟨hcs, _⟩ | ⟨x, l, c, zs, hcs, _, hl, hm, hz, hx, hcell, hwz⟩
  · simp [Value.cells] at hcs
    obtain ⟨rfl, rfl, rfl⟩ := hcs
    exact ⟨[], rfl, ⟨(fun c hc => by cases hc), Or.inl rfl, Nat.le_refl _, Nat.zero_le _, fun _ => rfl⟩, Or.inl rfl⟩
  · simp [Value.cells] at hcs
    obtain ⟨rfl, rfl, rfl⟩ := hcs
    have hlz : len ≤ zs.length := by split at hz <;> omega
    obtain ⟨h1, h2⟩ := bytesAt_of_ints hlz hcell hwz
    simp only [Prod.mk.injEq] at hx
    have hln : ((zs.take len).map Int.toNat).length = len := by simp; omega
    exact ⟨_, hln, ⟨h1, h2, by rw [hln]; exact hl, by unfold maxLen at hm; omega, fun h => by cases h⟩, Or.inr ⟨_, _, hx.1, by simp [lits]; omega⟩⟩
/-- what the form's own reach says of bytes -/
theorem bytes_reach {ts : List TypeId} {ds : List (DataW H)} (h : (DataW.weightsEach P ts ds).all (· ≤ reachBytes) = true) {j : Nat} {t e : TypeId} {d : DataW H} {len : Nat} (ht : ts[j]? = some t) (hd : ds[j]? = some d) (hu : P.underlying t = some (.slice e)) (hb : P.bytesOf e = 1)
    (hs : len = 0 ∨ ∃ el sp, d = .slice el sp ∧ len ≤ el.length) : len ≤ 140737488351232 := by
  rcases hs with rfl | ⟨el, sp, rfl, hl⟩
  · omega
  · have := sized_slice h ht hd hu
    rw [hb] at this
    unfold reachBytes at this
    omega
theorem open_parts {t e q : TypeId} {a : Option Addr} {len cap : Nat} {d : DataW H} {ps : List MemPlace} (ht : P.underlying t = some (.slice e)) (he : P.underlying e = some (.slice q)) (hq : P.underlying q = some (.int .u8)) (ce : P.cellsOf e = 1) (cq : P.cellsOf q = 1)
    (h : DataW.Trod enc P w base (fun _ => true) held t (.slice a len cap) d ps) : ∃ L : List Part, L.length = len ∧ PartsAt w a L ∧ (∀ p ∈ L, PartOk w p) ∧ len ≤ cap ∧ cap ≤ maxLen := by
  obtain ⟨fuel, hf⟩ := h
  rcases Deep.open_int_rows ht he hq ce cq hf with ⟨hcs, _⟩ | ⟨x, l, c, A, L, C, Z, hcs, _, hl, hm, _, hrow⟩
  · simp [Value.cells] at hcs
    obtain ⟨rfl, rfl, rfl⟩ := hcs
    exact ⟨[], rfl, Or.inl rfl, (fun c hc => by cases hc), Nat.le_refl _, Nat.zero_le _⟩
  · simp [Value.cells] at hcs
    obtain ⟨rfl, rfl, rfl⟩ := hcs
    have each : ∀ r, r < cap → AllBytes (((Z r).take (L r)).map Int.toNat) ∧ BytesAt w (A r) (((Z r).take (L r)).map Int.toNat) ∧ (((Z r).take (L r)).map Int.toNat).length = L r ∧ L r ≤ maxLen ∧ L r ≤ C r ∧ (A r = none → C r = 0) := by
      intro r hr
      obtain ⟨_, h2, h3, h4, h5, h6, h7⟩ := hrow r hr
      cases hA : A r with
      | none =>
        have hL : L r = 0 := by have := h6 hA; omega
        rw [hL]
        exact ⟨(fun c hc => by simp at hc), Or.inl (by simp), by simp, Nat.zero_le _, Nat.zero_le _, fun _ => h6 hA⟩
      | some a' =>
        obtain ⟨_, h8⟩ := h7 a' hA
        obtain ⟨g1, g2⟩ := bytesAt_of_ints (w := w) (a := a') (len := L r) (zs := Z r) (by omega) (fun i hi => h8 i (by omega)) h5
        exact ⟨g1, g2, by simp; omega, by omega, h2, fun h => by cases h⟩
    refine ⟨(List.range len).map fun r => ⟨A r, C r, ((Z r).take (L r)).map Int.toNat⟩, by simp, ?_, ?_, hl, hm⟩
    · by_cases h0 : len = 0
      · left; subst h0; rfl
      · right
        obtain ⟨b, off, spot⟩ := x
        have hc := (hrow 0 (by omega)).1
        have hspot : spot = none := by simpa [Addr.add] using World.cell?_spot hc
        subst hspot
        have hadd : ∀ i, (⟨b, off, none⟩ : Addr).add i = ⟨b, off + i, none⟩ := by intro i; unfold Addr.add; split <;> simp_all
        have hlt := block_lt_of_cell hc
        rw [hadd] at hlt
        refine ⟨b, off, rfl, hlt, fun i hi => ?_⟩
        have hi' : i < len := by simpa using hi
        have h1 := (hrow i (by omega)).1
        rw [hadd] at h1
        rw [h1]
        have e := (each i (by omega)).2.2.1
        simp [List.getD_eq_getElem?_getD, hi', Part.val] at e ⊢
        exact e.symm
    · intro p hp
      obtain ⟨r, hr, rfl⟩ := List.mem_map.1 hp
      have hr' : r < cap := by have := List.mem_range.1 hr; omega
      obtain ⟨g1, g2, g3, g4, g5, g6⟩ := each r hr'
      exact ⟨g1, by show (((Z r).take (L r)).map Int.toNat).length ≤ _; rw [g3]; exact g4, g2, by show (((Z r).take (L r)).map Int.toNat).length ≤ _; rw [g3]; exact g5, g6⟩
end
end Go.Proofs.Ythmmhbeafbdglaa
