import Derived.Test.YthmmhbeafbdglaaFrCutSaid
import Derived.Test.YthmmhbeafbdglaaLawFrOwn
namespace Go.Proofs.Ythmmhbeafbdglaa
open Go.RowKit
/-- a byte of a row of one's own is turned -/
theorem bytes_set {w : World} {base : Nat} {B : Option Addr} {k : Nat} {bs : List Nat} (h : w.ownsRow base 5 1 (.slice B bs.length k) bs.length (cellsOf bs)) (hb : AllBytes bs) {x : Nat} (hx : x < bs.length) :
    ∃ g, B = some ⟨g, 0, none⟩ ∧ base ≤ g ∧ w.cell? ⟨g, x, none⟩ = some (.int .u8 (bs.getD x 0 : Nat)) ∧ w.frozen? ⟨g, x, none⟩ = false ∧ ∀ v : Nat, v < 256 → BytesIn (w.setCell ⟨g, x, none⟩ (.int .u8 (v : Nat))) B k (bs.set x v) := by
  have h0 : bs ≠ [] := by intro e; subst e; simp at hx
  obtain ⟨g, cap, cur, hv, hg, hblk, hc, hm, hcur⟩ := own_bytes h h0
  injection hv with e1 e2 e3
  subst e3
  refine ⟨g, e1, hg, (block_cell hblk x).trans (hcur x hx), block_free hblk x, fun v hv => ⟨?_, ?_, by simpa using hc, by unfold maxLen at hm; simp; omega, fun h => by rw [h] at e1; cases e1⟩⟩
  · intro c hcm
    rcases List.mem_or_eq_of_mem_set hcm with h | h
    · exact hb c h
    · omega
  · have hs := block_set hblk x (.int .u8 (v : Int))
    refine Or.inr ⟨g, 0, e1, block_lt hs, fun i hi => ?_⟩
    have hi' : i < bs.length := by simpa using hi
    rw [Nat.zero_add, block_cell hs, Array.getElem?_setIfInBounds]
    by_cases hix : x = i
    · subst hix
      have hsz : x < cur.size := by
        rcases Nat.lt_or_ge x cur.size with h | h
        · exact h
        · have := hcur x hx
          rw [Array.getElem?_eq_none h] at this
          cases this
      rw [if_pos rfl, if_pos hsz]
      simp [List.getD_eq_getElem?_getD, hx]
    · rw [if_neg hix, hcur i hi']
      simp [List.getD_eq_getElem?_getD, List.getElem?_set_ne hix]
theorem xor_ne (c b : Nat) (hc : c < 256) (hb : b < 256) (h0 : b ≠ 0) : ∃ d : Nat, d < 256 ∧ d ≠ c ∧ bits .xor .u8 (c : Int) (b : Int) = (d : Int) := by
  refine ⟨c ^^^ b, Nat.xor_lt_two_pow (n := 8) hc (by omega), fun h => h0 ?_, u8_xor_nat c b hc (by omega)⟩
  have : c ^^^ (c ^^^ b) = c ^^^ c := by rw [h]
  rw [← Nat.xor_assoc, Nat.xor_self, Nat.zero_xor] at this
  exact this
/-- what a scan of turned bytes gives -/
theorem turned_got (l : List (List Nat)) (L : List Nat) (hL : layB 1 l = L) (hbytes : ∀ d ∈ l, AllBytes d) (a v k N : Nat) (hd : ∀ d ∈ l, d.length ≤ 262144) (hs : l.length ≤ 4000000000) (hw : Whole l a k) (ha : a < L.length) (hN : k ≤ N) (hv : v < 256) (hne : v ≠ L.getD a 0) (fs : List FrN)
    (hp : fs.map FrN.pair = scanL N 1 (L.set a v)) :
    k < l.length ∧ k ≤ fs.length ∧ (∀ i, i < k → (fs.getD i default).bs = l.getD i []) ∧ (fs.length = k ∨ (k < fs.length ∧ (fs.getD k default).bs ≠ l.getD k [])) := by
  subst hL
  have hb : AllBytes ((layB 1 l).set a v) := by
    intro c hc
    rcases List.mem_or_eq_of_mem_set hc with h | h
    · exact layB_bytes l 1 hbytes c h
    · omega
  obtain ⟨t, h1, h2, h3⟩ := scan_turned l ((layB 1 l).set a v) a k N hd hs hw (by rwa [layB_length] at ha) hN hb (fun j hj => List.getElem?_set_ne (by omega)) (by
    rw [List.getElem?_set_self ha]
    intro e
    apply hne
    rw [List.getD_eq_getElem?_getD, ← e]; rfl)
  rw [h1] at hp
  have hkl : (numbered 1 (l.take k)).length = k := by rw [numbered_length]; simp; omega
  have hlen : fs.length = k + t.length := by
    have := congrArg List.length hp
    rw [List.length_map, List.length_append, hkl] at this
    exact this
  refine ⟨h2, by omega, fun i hi => ?_, ?_⟩
  · have e := congrArg (fun l => l[i]?) hp
    have hif : i < fs.length := by omega
    have hil : i < l.length := by omega
    simp only [List.getElem?_map, List.getElem?_append_left (show i < (numbered 1 (l.take k)).length by omega), numbered_get, List.getElem?_take, if_pos hi, List.getElem?_eq_getElem hif, List.getElem?_eq_getElem hil, Option.map_some, FrN.pair, Option.some.injEq, Prod.mk.injEq] at e
    simpa [List.getD_eq_getElem?_getD, List.getElem?_eq_getElem hif, List.getElem?_eq_getElem hil] using e.2
  · rcases h3 with rfl | ⟨sq, y, u, rfl, hy⟩
    · left; simpa using hlen
    · right
      have hkf : k < fs.length := by rw [hlen]; simp
      refine ⟨hkf, ?_⟩
      have e := congrArg (fun l => l[k]?) hp
      simp only [List.getElem?_map, List.getElem?_append_right (Nat.le_of_eq hkl), hkl, Nat.sub_self, List.getElem?_cons_zero, List.getElem?_eq_getElem hkf, Option.map_some, FrN.pair, Option.some.injEq, Prod.mk.injEq] at e
      have e2 : (fs.getD k default).bs = y := by simpa [List.getD_eq_getElem?_getD, List.getElem?_eq_getElem hkf] using e.2
      rw [e2]; exact hy
end Go.Proofs.Ythmmhbeafbdglaa
