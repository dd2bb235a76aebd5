import Derived.Test.YthmmhbeafbdglaaRows
import Derived.Test.YthmmhbeafbdglaaOpen
namespace Go.Proofs.Ythmmhbeafbdglaa
open Go.ChangeShapes Go.WideShapes Go.ChangeAt Go.RowKit
def partsBulk (ps : List Part) : Nat := (ps.map fun p => p.bs.length + 1).sum
section
variable {H : Type} {enc : TypeId × Value → H} {P : Program} {w : World} {base : Nat} {spare : Nat → Bool} {held : Bool}
theorem bulk_all_length : ∀ (l : List (DataW H)), l.length ≤ Rows.uptoBulkAll l
  | [] => Nat.zero_le _
  | d :: r => by
    have h1 := bulk_all_length r
    have h2 : 1 ≤ Rows.uptoBulk d := by cases d <;> first | (simp [Rows.uptoBulk]; done) | (rename_i x; cases x <;> simp [Rows.uptoBulk])
    simp only [Rows.uptoBulkAll, List.length_cons]
    omega
theorem bulk_lits (k : IntKind) (zs : List Int) : zs.length ≤ Rows.uptoBulkAll (H := H) (lits k zs) := by
  have := bulk_all_length (H := H) (lits k zs)
  simpa [lits] using this
theorem open_parts_up {t e q : TypeId} {a : Option Addr} {len cap : Nat} {d : DataW H} {ps : List MemPlace} (ht : P.underlying t = some (.slice e)) (he : P.underlying e = some (.slice q)) (hq : P.underlying q = some (.int .u8)) (ce : P.cellsOf e = 1) (cq : P.cellsOf q = 1)
    (h : DataW.Trod enc P w base (fun _ => true) held t (.slice a len cap) d ps) : ∃ L : List Part, L.length = len ∧ PartsAt w a L ∧ (∀ p ∈ L, PartOk w p) ∧ len ≤ cap ∧ cap ≤ maxLen ∧ partsBulk L ≤ Rows.uptoBulk d := by
  obtain ⟨fuel, hf⟩ := h
  rcases Deep.open_int_rows ht he hq ce cq hf with ⟨hcs, _⟩ | ⟨x, l, c, A, L, C, Z, hcs, _, hl, hm, hx, hrow⟩
  · simp [Value.cells] at hcs
    obtain ⟨rfl, rfl, rfl⟩ := hcs
    exact ⟨[], rfl, Or.inl rfl, (fun c hc => by cases hc), Nat.le_refl _, Nat.zero_le _, Nat.zero_le _⟩
  · simp [Value.cells] at hcs
    obtain ⟨rfl, rfl, rfl⟩ := hcs
    have each : ∀ r, r < cap → AllBytes (((Z r).take (L r)).map Int.toNat) ∧ BytesAt w (A r) (((Z r).take (L r)).map Int.toNat) ∧ (((Z r).take (L r)).map Int.toNat).length = L r ∧ L r ≤ maxLen ∧ L r ≤ C r ∧ (A r = none → C r = 0) := by
      intro r hr
      obtain ⟨_, h2, h3, h4, h5, h6, h7⟩ := hrow r hr
      cases hA : A r with
      | none =>
        have hL : L r = 0 := by have := h6 hA; omega
        rw [hL]
        exact ⟨(fun c hc => by simp at hc), Or.inl (by simp), by simp, Nat.zero_le _, Nat.zero_le _, fun _ => h6 hA⟩
      | some a' =>
        obtain ⟨_, h8⟩ := h7 a' hA
        obtain ⟨g1, g2⟩ := bytesAt_of_ints (w := w) (a := a') (len := L r) (zs := Z r) (by omega) (fun i hi => h8 i (by omega)) h5
        exact ⟨g1, g2, by simp; omega, by omega, h2, fun h => by cases h⟩
    refine ⟨(List.range len).map fun r => ⟨A r, C r, ((Z r).take (L r)).map Int.toNat⟩, by simp, ?_, ?_, hl, hm, ?_⟩
    · by_cases h0 : len = 0
      · left; subst h0; rfl
      · right
        obtain ⟨b, off, spot⟩ := x
        have hc := (hrow 0 (by omega)).1
        have hspot : spot = none := by simpa [Addr.add] using World.cell?_spot hc
        subst hspot
        have hadd : ∀ i, (⟨b, off, none⟩ : Addr).add i = ⟨b, off + i, none⟩ := by intro i; unfold Addr.add; split <;> simp_all
        have hlt := block_lt_of_cell hc
        rw [hadd] at hlt
        refine ⟨b, off, rfl, hlt, fun i hi => ?_⟩
        have hi' : i < len := by simpa using hi
        have h1 := (hrow i (by omega)).1
        rw [hadd] at h1
        rw [h1]
        have e := (each i (by omega)).2.2.1
        simp [List.getD_eq_getElem?_getD, hi', Part.val] at e ⊢
        exact e.symm
    · intro p hp
      obtain ⟨r, hr, rfl⟩ := List.mem_map.1 hp
      have hr' : r < cap := by have := List.mem_range.1 hr; omega
      obtain ⟨g1, g2, g3, g4, g5, g6⟩ := each r hr'
      exact ⟨g1, by show (((Z r).take (L r)).map Int.toNat).length ≤ _; rw [g3]; exact g4, g2, by show (((Z r).take (L r)).map Int.toNat).length ≤ _; rw [g3]; exact g5, g6⟩
    · simp only [Prod.mk.injEq] at hx
      rw [hx.1]
      have key : ∀ (l : List Nat), (∀ r ∈ l, r < cap) → partsBulk (l.map fun r => ⟨A r, C r, ((Z r).take (L r)).map Int.toNat⟩) ≤ Rows.uptoBulkAll (H := H) (l.map fun r => Deep.intRow .u8 (A r) (L r) (Z r)) := by
        intro l
        induction l with
        | nil => intro _; exact Nat.zero_le _
        | cons r l ih =>
          intro hl
          have h1 := ih (fun x hx => hl x (by simp [hx]))
          have h2 := (each r (hl r (by simp))).2.2.1
          have h3 := (each r (hl r (by simp)))
          have h4 : L r + 1 ≤ Rows.uptoBulk (H := H) (Deep.intRow .u8 (A r) (L r) (Z r)) := by
            cases hA : A r with
            | none =>
              have := h3.2.2.2.2.2 hA
              have := h3.2.2.2.2.1
              simp [Deep.intRow, Rows.uptoBulk]; omega
            | some a' =>
              have : L r = ((Z r).take (L r)).length := by rw [← h2]; simp
              simp only [Deep.intRow, Rows.uptoBulk]
              have h5 := bulk_lits (H := H) .u8 ((Z r).take (L r))
              omega
          simp only [List.map_cons, partsBulk, List.sum_cons, Rows.uptoBulkAll] at h1 ⊢
          omega
      have := key (List.range len) (fun r hr => by have := List.mem_range.1 hr; omega)
      simp only [Rows.uptoBulk]
      omega
theorem bytes_bulk {d : DataW H} {len K : Nat} (hs : len = 0 ∨ ∃ el sp, d = .slice el sp ∧ len ≤ el.length) (h : Rows.uptoBulk d ≤ K) : len ≤ K := by
  rcases hs with rfl | ⟨el, sp, rfl, hl⟩
  · omega
  · have := bulk_all_length el
    simp only [Rows.uptoBulk] at h
    omega
end
end Go.Proofs.Ythmmhbeafbdglaa
