/- The keys of a node; slices.ContainsFunc at the two function values. Conditions: none but lengths. -/
import Derived.Test.YtpgncjfmaeiaaaaDoorIsMap
set_option linter.unusedVariables false
namespace Go.Proofs.YtpgncjfmaeiaaaaDoor.Is
open Go.RowKit
/-- a row of numbers -/
def Row (w : World) (A : Option Addr) (zs : List Int) : Prop := ∀ i, i < zs.length → ∃ b off, A = some ⟨b, off, none⟩ ∧ b < w.heap.size ∧ w.cell? ⟨b, off + i, none⟩ = some (.int .i64 (zs.getD i 0))
theorem Row.below {w w' : World} {A : Option Addr} {zs : List Int} (h : Row w A zs) (hb : Below w.heap.size w w') : Row w' A zs := fun i hi => by
  obtain ⟨b, off, h1, h2, h3⟩ := h i hi
  exact ⟨b, off, h1, Nat.lt_of_lt_of_le h2 hb.size, (hb.cell (p := ⟨b, _, none⟩) h2).trans h3⟩
theorem Row.kept {w w' : World} {A : Option Addr} {zs : List Int} {b : Nat} (h : Row w A zs) (hg : w.grownBy w' (some b)) (hf : ∀ p, A = some p → p.block ≠ b) : Row w' A zs := fun i hi => by
  obtain ⟨g, off, h1, h2, h3⟩ := h i hi
  refine ⟨g, off, h1, Nat.lt_of_lt_of_le h2 hg.size, ?_⟩
  have hh := hg.block g h2 (by intro e; injection e with e; exact hf _ h1 e)
  unfold World.cell? at h3 ⊢
  simp only at h3 ⊢
  rw [hh]
  exact h3
theorem KidsAt.row {w : World} {n : Nd} (h : KidsAt w n) : Row w n.ka n.kids := h.get
theorem own_row {w : World} {base : Nat} {v : Value} {zs : List Int} (h : w.ownsRow base 3 1 v zs.length (intCells zs)) : ∃ A c, v = .slice A zs.length c ∧ Row w A zs ∧ ∀ p, A = some p → base ≤ p.block := by
  rcases h.2 with ⟨rfl, h0⟩ | ⟨g, cap, cur, rfl, hge, hh, hn, _, hc, ht⟩
  · exact ⟨none, 0, by rw [h0], fun i hi => by omega, fun p hp => by cases hp⟩
  · refine ⟨_, cap, rfl, fun i hi => ⟨g, 0, rfl, block_lt hh, ?_⟩, fun p hp => by cases hp; exact hge⟩
    rw [Nat.zero_add, block_cell hh]
    have e : cur.toList[i]? = (intCells zs)[i]? := by rw [← ht, List.getElem?_take, if_pos (by omega)]
    rw [← Array.getElem?_toList, e]
    simp [intCells, List.getD_eq_getElem?_getD, hi]
/-- every second number -/
def evens (l : List Int) : List Int := (List.range (l.length / 2)).map fun j => l.getD (2 * j) 0
def evensTo (l : List Int) (k : Nat) : List Int := (List.range k).map fun j => l.getD (2 * j) 0
theorem evensTo_len (l : List Int) (k : Nat) : (evensTo l k).length = k := by simp [evensTo]
theorem evensTo_succ (l : List Int) (k : Nat) : evensTo l (k + 1) = evensTo l k ++ [l.getD (2 * k) 0] := by simp [evensTo, List.range_succ]
def keysN (n : Nd) : List Int := if n.kind = 6 then evens n.kids else []
theorem ext_world (w : World) (o : Obj) : Below w.heap.size w (w.alloc o) := (Below.refl _ _).alloc (Nat.le_refl _) _
def KeysPost (zs : List Int) (w : World) (e : Ending) (w' : World) : Prop := ∃ A c, e = .returned (.slice A zs.length c) ∧ Row w' A zs ∧ Below w.heap.size w w' ∧ ∀ p, A = some p → w.heap.size ≤ p.block
set_option maxHeartbeats 800000 in
theorem keys_any (n : Nd) (w : World) (G : KidsAt w n) (hl : n.kids.length ≤ 1000000) : Calls Tryd.prog 26 #[n.val] w (KeysPost (keysN n) w) := by
  obtain ⟨kind, txt, kids, ka, kc⟩ := n
  simp only at hl
  unfold Nd.val
  simp only
  have G0 := Lib.hid G
  have HB0 : Hid (Below w.heap.size w (w.alloc (.cells #[.int .i64 kind, .string txt, .slice ka kids.length kc] 38))) := ext_world w _
  have b0 := bcell (heap_new w #[.int .i64 kind, .string txt, .slice ka kids.length kc] 38) 0
  have b2 := bcell (heap_new w #[.int .i64 kind, .string txt, .slice ka kids.length kc] 38) 2
  by_cases h6 : kind = 6
  · have hk : keysN ⟨kind, txt, kids, ka, kc⟩ = evensTo kids (kids.length / 2) := by unfold keysN; rw [if_pos h6]; rfl
    rw [hk]
    subst h6
    obtain ⟨L, hL⟩ : ∃ L, L = kids.length := ⟨_, rfl⟩
    rw [← hL] at HB0 b0 b2 hl ⊢
    have HL := Lib.hid hL
    clear hL hk G
    obtain ⟨R, hR⟩ : ∃ R, R = evensTo kids (L / 2) := ⟨_, rfl⟩
    rw [← hR]
    have HR := Lib.hid hR
    clear hR
    have HRL : Hid (R.length = L / 2) := by show _ = _; rw [HR.out, evensTo_len]
    go_enter Tryd.func26, Tryd.ntmps26
    go_wp2_with fail
    go_loopw [3, 4] (fun u v wr => ∃ k : Nat, k ≤ L / 2 ∧ v = .int .i64 ((2 * k : Nat) : Int) ∧ Hid (wr.ownsRow (w.heap.size + 1) 3 1 u k (intCells (evensTo kids k))) ∧ Hid (Below (w.heap.size + 1) (w.alloc (.cells #[.int .i64 6, .string txt, .slice ka L kc] 38)) wr)) (fun _ v _ => L - (intOf v).toNat)
    case atStart => exact ⟨0, Nat.zero_le _, rfl, World.ownsRow_nil _ _ _ _, Below.refl _ _⟩
    case round =>
      obtain ⟨k, hk, rfl, ho, hb⟩ := hrel
      have c2 : wr.cell? ⟨w.heap.size, 2, none⟩ = some (.slice ka L kc) := (hb.out.cell (p := ⟨w.heap.size, 2, none⟩) (by simp)).trans b2
      by_cases hlt : 2 * k + 1 < L
      · have hltI : (2 * (k : Int) + 1) < (L : Int) := by omega
        obtain ⟨b, off, hA, hbl, hc⟩ := G0.out.get (2 * k) (by show 2 * k < kids.length; rw [← HL.out]; omega)
        simp only at hA hc
        have hnx := Lib.hid (evensTo_succ kids k)
        have hlen : Hid ((evensTo kids k).length = k) := evensTo_len kids k
        generalize kids.getD (2 * k) 0 = x at hc hnx
        generalize evensTo kids k = acc at ho hnx hlen
        have hcw : wr.cell? ⟨b, off + 2 * k, none⟩ = some (.int .i64 x) := (hb.out.cell (p := ⟨b, _, none⟩) (by show b < w.heap.size + 1; omega)).trans (((ext_world w _).cell (p := ⟨b, _, none⟩) hbl).trans hc)
        subst hA
        obtain ⟨i0, hi, hz0, hz1, hz2⟩ := info_parts infoInt
        have hgw : Hid (w.heap.size + 1 ≤ wr.heap.size) := by show _ ≤ _; have h9 := hb.out.size; simpa using h9
        clear hc b0 b2
        go_wp2_with (at_builtin; refine wpList_append_own _ rfl _ _ 36 rfl (w.heap.size + 1) 3 i0 (.int .i64 0) 1 8 Tryd.underlying36 hi hz0 hz1 hz2 rfl (by decide) u3 k (intCells acc) rfl (own_below ho.out (ext_world wr _)) ⟨wr.heap.size, 0, none⟩ 1 1 [.int .i64 x] rfl rfl ?c1 ?c2 ?c3 ?c4 ?c5 ?_)
        case c1 =>
          intro j u hj
          rcases j with _ | j
          · simp at hj; subst hj; rw [Go.Proofs.YtpgncjfmaeiaaaaDoor.addr_add]; exact block_cell (heap_alloc_new _ _) 0
          · simp at hj
        case c2 => intro u hu; simp at hu; subst hu; rfl
        case c3 => unfold maxLen; omega
        case c4 => omega
        case c5 => have h9 := hgw.out; simp; omega
        intro v2 w2 ho2 hg2 _
        have HO2 : Hid (w2.ownsRow (w.heap.size + 1) 3 1 v2 (k + 1) (intCells (evensTo kids (k + 1)))) := by
          show World.ownsRow _ _ _ _ _ _ _
          rw [hnx.out]
          simpa [intCells] using ho2
        have HB2 : Hid (Below (w.heap.size + 1) (w.alloc (.cells #[.int .i64 6, .string txt, .slice (some ⟨b, off, none⟩) L kc] 38)) w2) :=
          Below.grown (hb.out.alloc hgw.out _) hg2 (by have h9 := hgw.out; simp; omega) (fun j hj => (ho.out.lt j hj).1)
        obtain ⟨A2, cc2, rfl⟩ := own_len HO2.out
        clear ho2 hg2
        go_wp2_with fail
        go_roundw
        case rel => exact ⟨k + 1, by omega, by go_num, HO2.out, HB2.out⟩
        case measure => simp [intOf]; omega
      · obtain rfl : k = L / 2 := by omega
        have hltI : ¬ (2 * ((L / 2 : Nat) : Int) + 1 < (L : Int)) := by omega
        rw [← HR.out] at ho
        have HF : Hid (∃ A c, u3 = .slice A R.length c ∧ Row wr A R ∧ ∀ p, A = some p → w.heap.size + 1 ≤ p.block) := own_row (by rw [HRL.out]; exact ho.out)
        obtain ⟨A2, cc2, rfl, hr2, hf2⟩ := HF.out
        go_wp2_with fail
        go_ret
        exact ⟨_, _, rfl, hr2, HB0.out.trans (hb.out.mono (by simp)), fun p hp => by have h9 := hf2 p hp; omega⟩
  · have hk : keysN ⟨kind, txt, kids, ka, kc⟩ = [] := by unfold keysN; rw [if_neg h6]
    rw [hk]
    have h6I : (kind == 6) = false := beq_eq_false_iff_ne.2 h6
    go_enter Tryd.func26, Tryd.ntmps26
    go_wp2_with fail
    go_ret
    exact ⟨_, _, rfl, fun i hi => by simp at hi, HB0.out, fun p hp => by cases hp⟩
end Go.Proofs.YtpgncjfmaeiaaaaDoor.Is
