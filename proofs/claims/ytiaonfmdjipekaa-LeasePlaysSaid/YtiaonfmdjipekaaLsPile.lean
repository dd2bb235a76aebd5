/- Walks: a pile of entries: Len, Less, Swap. Conditions: the entries lie in blocks of their own, each told of its place. -/
import Derived.Test.YtiaonfmdjipekaaLsKit
set_option linter.unusedVariables false
namespace Go.Proofs.Ytiaonfmdjipekaa.Ls
open Go.RowKit
def ptrs (h : List Ent) : List Value := h.map fun e => .pointer (some ⟨e.blk, 0, none⟩)
theorem ptrs_len (h : List Ent) : (ptrs h).length = h.length := by simp [ptrs]
structure Pile (w : World) (B : Nat → Prop) (A : Option Addr) (c : Nat) (h : List Ent) : Prop where
  row : w.ownsRow 0 62 1 (.slice A h.length c) h.length (ptrs h)
  out : ∀ g, A = some ⟨g, 0, none⟩ → ¬ B g
  ents : ∀ i, i < h.length → EntAt w (h.getD i ent0) (i : Nat) ∧ ¬ B (h.getD i ent0).blk
  apart : (h.map Ent.blk).Nodup
theorem Pile.block {w : World} {B : Nat → Prop} {A : Option Addr} {c : Nat} {h : List Ent} (p : Pile w B A c h) {i : Nat} (hi : i < h.length) :
    ∃ g cur, A = some ⟨g, 0, none⟩ ∧ ¬ B g ∧ w.heap[g]? = some (.cells cur 62 (0, 0)) ∧ h.length ≤ c ∧ cur.size = c ∧ cur.toList.take h.length = ptrs h ∧ ∀ j, j < h.length → cur[j]? = some (.pointer (some ⟨(h.getD j ent0).blk, 0, none⟩)) := by
  rcases p.row.2 with ⟨_, h0⟩ | ⟨g, cap, cur, he, hge, hh, hn, _, hc, ht⟩
  · omega
  · simp only [Value.slice.injEq] at he
    obtain ⟨rfl, _, rfl⟩ := he
    rw [Nat.mul_one] at hc ht
    refine ⟨g, cur, rfl, p.out g rfl, hh, hn, hc, ht, fun j hj => ?_⟩
    have e : cur.toList[j]? = (ptrs h)[j]? := by rw [← ht, List.getElem?_take, if_pos hj]
    rw [← Array.getElem?_toList, e]
    simp [ptrs, List.getD_eq_getElem?_getD, hj]
theorem Pile.below {w w' : World} {B : Nat → Prop} {A : Option Addr} {c : Nat} {h : List Ent} (p : Pile w B A c h) (hb : Below w.heap.size w w') : Pile w' B A c h := by
  refine ⟨⟨p.row.1, ?_⟩, p.out, fun i hi => ⟨(p.ents i hi).1.below hb, (p.ents i hi).2⟩, p.apart⟩
  rcases p.row.2 with h2 | ⟨b, cap, cur, hv, hg, hh, r⟩
  · exact Or.inl h2
  · exact Or.inr ⟨b, cap, cur, hv, hg, (hb.block b (blt hh)).trans hh, r⟩
theorem plen_any (A : Option Addr) (n c : Nat) (w : World) : Calls Try.prog 81 #[.slice A n c] w fun e w' => e = .returned (.int .i64 (n : Nat)) ∧ w = w' := by
  go_enter Try.func81, Try.ntmps81
  go_wp2_with fail
  go_ret
  exact ⟨rfl, rfl⟩
set_option maxRecDepth 100000 in
set_option maxHeartbeats 1600000 in
theorem less_any (w : World) (B : Nat → Prop) (A : Option Addr) (c : Nat) (h : List Ent) (p : Pile w B A c h) (i j : Nat) (hi : i < h.length) (hj : j < h.length) :
    Calls Try.prog 82 #[.slice A h.length c, .int .i64 (i : Nat), .int .i64 (j : Nat)] w fun e w' => e = .returned (.bool (lessE (h.getD i ent0) (h.getD j ent0))) ∧ Below w.heap.size w w' := by
  obtain ⟨g, cur, rfl, _, hh, _, _, _, hcur⟩ := p.block hi
  have ci := (bcell hh i).trans (hcur i hi)
  have cj := (bcell hh j).trans (hcur j hj)
  have hlt := blt hh
  have ei := (p.ents i hi).1
  have ej := (p.ents j hj).1
  generalize h.getD i ent0 = a at ci ei ⊢
  generalize h.getD j ent0 = b at cj ej ⊢
  have OD := Lib.hid (fun V (hV : Below w.heap.size w V) => order_any a b _ _ V (ei.below hV) (ej.below hV))
  have HV := Lib.hid (order_less a b)
  generalize orderZ a b = z at OD HV
  generalize h.length = n at hi hj ⊢
  clear p hh hcur ei ej
  have hiI : (i : Int) < (n : Int) := by omega
  have hjI : (j : Int) < (n : Int) := by omega
  go_enter Try.func82, Try.ntmps82
  go_wp2_with fail
  have SB : ∀ V V' : World, Below V.heap.size V V' → (Below w.heap.size w V ∧ V.cell? ⟨g, i, none⟩ = some (.pointer (some ⟨a.blk, 0, none⟩)) ∧ V.cell? ⟨g, j, none⟩ = some (.pointer (some ⟨b.blk, 0, none⟩))) →
      (Below w.heap.size w V' ∧ V'.cell? ⟨g, i, none⟩ = some (.pointer (some ⟨a.blk, 0, none⟩)) ∧ V'.cell? ⟨g, j, none⟩ = some (.pointer (some ⟨b.blk, 0, none⟩))) := by
    rintro V V' hB ⟨h0, h1, h2⟩
    have hs := h0.size
    exact ⟨h0.trans (hB.mono h0.size), (hB.cell (p := ⟨g, i, none⟩) (by simp; omega)).trans h1, (hB.cell (p := ⟨g, j, none⟩) (by simp; omega)).trans h2⟩
  have SBH := Lib.hid SB
  clear SB
  have D0 : Hid (Below w.heap.size w w.drew ∧ w.drew.cell? ⟨g, i, none⟩ = some (.pointer (some ⟨a.blk, 0, none⟩)) ∧ w.drew.cell? ⟨g, j, none⟩ = some (.pointer (some ⟨b.blk, 0, none⟩))) := ⟨(Below.refl _ _).drew, ci, cj⟩
  have OD2 := Lib.hid (fun V (hV : Below w.heap.size w V ∧ V.cell? ⟨g, i, none⟩ = some (.pointer (some ⟨a.blk, 0, none⟩)) ∧ V.cell? ⟨g, j, none⟩ = some (.pointer (some ⟨b.blk, 0, none⟩))) => OD.out V hV.1)
  go_region_held3 (fun w' => Below w.heap.size w w' ∧ w'.cell? ⟨g, i, none⟩ = some (.pointer (some ⟨a.blk, 0, none⟩)) ∧ w'.cell? ⟨g, j, none⟩ = some (.pointer (some ⟨b.blk, 0, none⟩)))
    (first
      | exact D0.out
      | exact SBH.out _ _ (by assumption) (by assumption)
      | exact SBH.out _ _ (by assumption) ⟨by assumption, by assumption, by assumption⟩
      | exact SBH.out _ _ (by assumption) D0.out
      | assumption
      | go_keep)
    (first
      | (go_at_call 31; (with_reducible refine (OD2.out _ (by first | assumption | exact D0.out | exact ⟨by assumption, by assumption, by assumption⟩)).mono ?_); rintro e wa ⟨rfl, hba⟩)
      | fail)
  rename_i hh
  have HF : Hid (Below w.heap.size w wa) := hh.1
  clear hh hba
  go_wp2_with fail
  go_ret
  exact ⟨by rw [← HV.out]; rfl, HF.out⟩
end Go.Proofs.Ytiaonfmdjipekaa.Ls
