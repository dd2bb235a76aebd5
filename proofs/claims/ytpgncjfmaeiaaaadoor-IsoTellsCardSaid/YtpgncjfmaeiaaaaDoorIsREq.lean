/- The document's Equal, Like, Iso. Conditions: texts and rows of right graphs no longer than 10^6. -/
import Derived.Test.YtpgncjfmaeiaaaaDoorIsPrs
import Derived.Test.YtpgncjfmaeiaaaaDoorIsRefB
import Derived.Test.YtpgncjfmaeiaaaaDoorIsRRight
set_option linter.unusedVariables false
namespace Go.Proofs.YtpgncjfmaeiaaaaDoor.Is
open Go.RowKit
theorem getD_in_l {l : PrL} {i : Nat} (h : i < l.length) : l.getD i (0, 0) ∈ l := by
  rw [List.getD_eq_getElem?_getD, List.getElem?_eq_getElem h]
  exact List.getElem_mem _
theorem noshare_one {a b : Gv} {ord : Bool} {l : PrL} (hn : l.Nodup) (hm : ∀ y, RchR a b ord y ↔ y ∈ l) : NoShare l l.length ↔ One a b ord := by
  have inj : ∀ i j, i < l.length → j < l.length → l.getD i (0, 0) = l.getD j (0, 0) → i = j := nodup_getD hn
  constructor
  · intro h x y hx hy hs
    obtain ⟨i, hi, rfl⟩ := List.mem_iff_getElem.1 ((hm x).1 hx)
    obtain ⟨j, hj, rfl⟩ := List.mem_iff_getElem.1 ((hm y).1 hy)
    have gi : l.getD i (0, 0) = l[i] := by rw [List.getD_eq_getElem?_getD, List.getElem?_eq_getElem hi]; rfl
    have gj : l.getD j (0, 0) = l[j] := by rw [List.getD_eq_getElem?_getD, List.getElem?_eq_getElem hj]; rfl
    rcases Nat.lt_trichotomy i j with e | e | e
    · exact absurd (by unfold share2; rw [gi, gj]; exact hs) (h j i hj e)
    · subst e; rfl
    · exact absurd (by unfold share2; rw [gi, gj]; exact hs.imp Eq.symm Eq.symm) (h i j hi e)
  · intro h i k hi hk hs
    have := h _ _ ((hm _).2 (getD_in_l (i := k) (by omega))) ((hm _).2 (getD_in_l hi)) hs
    have := inj k i (by omega) hi this
    omega
set_option maxRecDepth 100000 in
set_option maxHeartbeats 3200000 in
theorem requal_any (a b : Gv) (w : World) (Ga : GrIn w a) (Gb : GrIn w b) (Sa : SmallG a.ns) (Sb : SmallG b.ns) : Calls Tryd.prog 10 #[a.val, b.val] w (TellPost (tellR a b false false) w) := by
  obtain ⟨hv, a0, a1, b0, b1⟩ := two_graphs w a b
  have RA : Hid (∀ V, Below w.heap.size w V → Calls Tryd.prog 21 #[.agg #[.slice a.A a.ns.length a.c, .int .i64 a.root]] V (BoolPost (rightN a) V)) := fun V hV => rright_any a V (Ga.below hV) Sa
  have RB : Hid (∀ V, Below w.heap.size w V → Calls Tryd.prog 21 #[.agg #[.slice b.A b.ns.length b.c, .int .i64 b.root]] V (BoolPost (rightN b) V)) := fun V hV => rright_any b V (Gb.below hV) Sb
  have PR : Hid (rightN a = true → rightN b = true → ∀ V, Below w.heap.size w V → Calls Tryd.prog 22 #[.agg #[.slice a.A a.ns.length a.c, .int .i64 a.root], .agg #[.slice b.A b.ns.length b.c, .int .i64 b.root], .bool false] V (PairsPost a b false V)) := fun ra rb V hV => pairs_any a b false V (Ga.below hV) (Gb.below hV) (Sa (right_len ra).2.1) (Sb (right_len rb).2.1) ra rb
  have HT : Hid (rightN a = true → rightN b = true → (tellN a b false false = true ↔ TellP a b false false)) := fun ra rb => tell_iff ra rb
  unfold tellR Gv.val
  clear Ga Gb Sa Sb
  generalize hra : rightN a = ra at RA PR HT
  generalize hrb : rightN b = rb at RB PR HT
  clear hra hrb
  generalize tellN a b false false = R at HT
  cases ra with
  | false =>
    rw [if_neg (fun h => (by cases h.1))]
    go_enter Tryd.func10, Tryd.ntmps10
    go_wp2_with ((go_at_call 21; (with_reducible refine (RA.out _ hv.out).mono ?_); rintro e wq ⟨rfl, hb⟩; replace a0 := (hb.cell (p := ⟨w.heap.size, 0, none⟩) (block_lt_of_cell a0)).trans a0; replace a1 := (hb.cell (p := ⟨w.heap.size, 1, none⟩) (block_lt_of_cell a1)).trans a1; replace b0 := (hb.cell (p := ⟨w.heap.size + 1, 0, none⟩) (block_lt_of_cell b0)).trans b0; replace b1 := (hb.cell (p := ⟨w.heap.size + 1, 1, none⟩) (block_lt_of_cell b1)).trans b1; replace hv := Lib.hid (hv.out.trans (hb.mono hv.out.size)); clear hb))
    exact bodyPost_ret (v := .tuple #[.bool false, .int .i64 1]) (by simp [results, Tryd.results10, go_sem]) rfl ⟨rfl, hv.out⟩
  | true =>
    cases rb with
    | false =>
      rw [if_neg (fun h => (by cases h.2))]
      go_enter Tryd.func10, Tryd.ntmps10
      go_wp2_with (first | (go_at_call 21; (with_reducible refine (RA.out _ hv.out).mono ?_); rintro e wq ⟨rfl, hb⟩; replace a0 := (hb.cell (p := ⟨w.heap.size, 0, none⟩) (block_lt_of_cell a0)).trans a0; replace a1 := (hb.cell (p := ⟨w.heap.size, 1, none⟩) (block_lt_of_cell a1)).trans a1; replace b0 := (hb.cell (p := ⟨w.heap.size + 1, 0, none⟩) (block_lt_of_cell b0)).trans b0; replace b1 := (hb.cell (p := ⟨w.heap.size + 1, 1, none⟩) (block_lt_of_cell b1)).trans b1; replace hv := Lib.hid (hv.out.trans (hb.mono hv.out.size)); clear hb) | (go_at_call 21; (with_reducible refine (RB.out _ hv.out).mono ?_); rintro e wq ⟨rfl, hb⟩; replace a0 := (hb.cell (p := ⟨w.heap.size, 0, none⟩) (block_lt_of_cell a0)).trans a0; replace a1 := (hb.cell (p := ⟨w.heap.size, 1, none⟩) (block_lt_of_cell a1)).trans a1; replace b0 := (hb.cell (p := ⟨w.heap.size + 1, 0, none⟩) (block_lt_of_cell b0)).trans b0; replace b1 := (hb.cell (p := ⟨w.heap.size + 1, 1, none⟩) (block_lt_of_cell b1)).trans b1; replace hv := Lib.hid (hv.out.trans (hb.mono hv.out.size)); clear hb))
      exact bodyPost_ret (v := .tuple #[.bool false, .int .i64 1]) (by simp [results, Tryd.results10, go_sem]) rfl ⟨rfl, hv.out⟩
    | true =>
      rw [if_pos ⟨rfl, rfl⟩]
      replace PR := Lib.hid (PR.out rfl rfl)
      replace HT := Lib.hid (HT.out rfl rfl)
      go_enter Tryd.func10, Tryd.ntmps10
      go_wp2_with (first | (go_at_call 21; (with_reducible refine (RA.out _ hv.out).mono ?_); rintro e wq ⟨rfl, hb⟩; replace a0 := (hb.cell (p := ⟨w.heap.size, 0, none⟩) (block_lt_of_cell a0)).trans a0; replace a1 := (hb.cell (p := ⟨w.heap.size, 1, none⟩) (block_lt_of_cell a1)).trans a1; replace b0 := (hb.cell (p := ⟨w.heap.size + 1, 0, none⟩) (block_lt_of_cell b0)).trans b0; replace b1 := (hb.cell (p := ⟨w.heap.size + 1, 1, none⟩) (block_lt_of_cell b1)).trans b1; replace hv := Lib.hid (hv.out.trans (hb.mono hv.out.size)); clear hb) | (go_at_call 21; (with_reducible refine (RB.out _ hv.out).mono ?_); rintro e wq ⟨rfl, hb⟩; replace a0 := (hb.cell (p := ⟨w.heap.size, 0, none⟩) (block_lt_of_cell a0)).trans a0; replace a1 := (hb.cell (p := ⟨w.heap.size, 1, none⟩) (block_lt_of_cell a1)).trans a1; replace b0 := (hb.cell (p := ⟨w.heap.size + 1, 0, none⟩) (block_lt_of_cell b0)).trans b0; replace b1 := (hb.cell (p := ⟨w.heap.size + 1, 1, none⟩) (block_lt_of_cell b1)).trans b1; replace hv := Lib.hid (hv.out.trans (hb.mono hv.out.size)); clear hb))
      refine (PR.out _ hv.out).mono ?_
      rintro e w8 (⟨hag, A, c, l, rfl, hrow, hnd, hmm, hll, hb8⟩ | ⟨hag, rfl, hb8⟩)
      · have HR : Hid (R = true) := HT.out.2 ⟨hag, fun h => (by cases h)⟩
        have V8 : Hid (Below w.heap.size w w8) := hv.out.trans (hb8.mono hv.out.size)
        clear hag hrow hnd hmm hll hb8
        go_wp2_with fail
        exact bodyPost_ret (v := .tuple #[.bool true, .int .i64 0]) (by simp [results, Tryd.results10, go_sem]) rfl ⟨by rw [HR.out], V8.out⟩
      · have HR : Hid (R = false) := by
          cases hR : R with
          | false => rfl
          | true => exact absurd (HT.out.1 hR).1 hag
        have V8 : Hid (Below w.heap.size w w8) := hv.out.trans (hb8.mono hv.out.size)
        clear hag hb8
        go_wp2_with fail
        exact bodyPost_ret (v := .tuple #[.bool false, .int .i64 0]) (by simp [results, Tryd.results10, go_sem]) rfl ⟨by rw [HR.out], V8.out⟩
set_option maxRecDepth 100000 in
set_option maxHeartbeats 3200000 in
theorem rlike_any (a b : Gv) (w : World) (Ga : GrIn w a) (Gb : GrIn w b) (Sa : SmallG a.ns) (Sb : SmallG b.ns) : Calls Tryd.prog 12 #[a.val, b.val] w (TellPost (tellR a b false true) w) := by
  obtain ⟨hv, a0, a1, b0, b1⟩ := two_graphs w a b
  have RA : Hid (∀ V, Below w.heap.size w V → Calls Tryd.prog 21 #[.agg #[.slice a.A a.ns.length a.c, .int .i64 a.root]] V (BoolPost (rightN a) V)) := fun V hV => rright_any a V (Ga.below hV) Sa
  have RB : Hid (∀ V, Below w.heap.size w V → Calls Tryd.prog 21 #[.agg #[.slice b.A b.ns.length b.c, .int .i64 b.root]] V (BoolPost (rightN b) V)) := fun V hV => rright_any b V (Gb.below hV) Sb
  have PR : Hid (rightN a = true → rightN b = true → ∀ V, Below w.heap.size w V → Calls Tryd.prog 22 #[.agg #[.slice a.A a.ns.length a.c, .int .i64 a.root], .agg #[.slice b.A b.ns.length b.c, .int .i64 b.root], .bool false] V (PairsPost a b false V)) := fun ra rb V hV => pairs_any a b false V (Ga.below hV) (Gb.below hV) (Sa (right_len ra).2.1) (Sb (right_len rb).2.1) ra rb
  have HT : Hid (rightN a = true → rightN b = true → (tellN a b false true = true ↔ TellP a b false true)) := fun ra rb => tell_iff ra rb
  unfold tellR Gv.val
  clear Ga Gb Sa Sb
  generalize hra : rightN a = ra at RA PR HT
  generalize hrb : rightN b = rb at RB PR HT
  clear hra hrb
  generalize tellN a b false true = R at HT
  cases ra with
  | false =>
    rw [if_neg (fun h => (by cases h.1))]
    go_enter Tryd.func12, Tryd.ntmps12
    go_wp2_with ((go_at_call 21; (with_reducible refine (RA.out _ hv.out).mono ?_); rintro e wq ⟨rfl, hb⟩; replace a0 := (hb.cell (p := ⟨w.heap.size, 0, none⟩) (block_lt_of_cell a0)).trans a0; replace a1 := (hb.cell (p := ⟨w.heap.size, 1, none⟩) (block_lt_of_cell a1)).trans a1; replace b0 := (hb.cell (p := ⟨w.heap.size + 1, 0, none⟩) (block_lt_of_cell b0)).trans b0; replace b1 := (hb.cell (p := ⟨w.heap.size + 1, 1, none⟩) (block_lt_of_cell b1)).trans b1; replace hv := Lib.hid (hv.out.trans (hb.mono hv.out.size)); clear hb))
    exact bodyPost_ret (v := .tuple #[.bool false, .int .i64 1]) (by simp [results, Tryd.results12, go_sem]) rfl ⟨rfl, hv.out⟩
  | true =>
    cases rb with
    | false =>
      rw [if_neg (fun h => (by cases h.2))]
      go_enter Tryd.func12, Tryd.ntmps12
      go_wp2_with (first | (go_at_call 21; (with_reducible refine (RA.out _ hv.out).mono ?_); rintro e wq ⟨rfl, hb⟩; replace a0 := (hb.cell (p := ⟨w.heap.size, 0, none⟩) (block_lt_of_cell a0)).trans a0; replace a1 := (hb.cell (p := ⟨w.heap.size, 1, none⟩) (block_lt_of_cell a1)).trans a1; replace b0 := (hb.cell (p := ⟨w.heap.size + 1, 0, none⟩) (block_lt_of_cell b0)).trans b0; replace b1 := (hb.cell (p := ⟨w.heap.size + 1, 1, none⟩) (block_lt_of_cell b1)).trans b1; replace hv := Lib.hid (hv.out.trans (hb.mono hv.out.size)); clear hb) | (go_at_call 21; (with_reducible refine (RB.out _ hv.out).mono ?_); rintro e wq ⟨rfl, hb⟩; replace a0 := (hb.cell (p := ⟨w.heap.size, 0, none⟩) (block_lt_of_cell a0)).trans a0; replace a1 := (hb.cell (p := ⟨w.heap.size, 1, none⟩) (block_lt_of_cell a1)).trans a1; replace b0 := (hb.cell (p := ⟨w.heap.size + 1, 0, none⟩) (block_lt_of_cell b0)).trans b0; replace b1 := (hb.cell (p := ⟨w.heap.size + 1, 1, none⟩) (block_lt_of_cell b1)).trans b1; replace hv := Lib.hid (hv.out.trans (hb.mono hv.out.size)); clear hb))
      exact bodyPost_ret (v := .tuple #[.bool false, .int .i64 1]) (by simp [results, Tryd.results12, go_sem]) rfl ⟨rfl, hv.out⟩
    | true =>
      rw [if_pos ⟨rfl, rfl⟩]
      replace PR := Lib.hid (PR.out rfl rfl)
      replace HT := Lib.hid (HT.out rfl rfl)
      go_enter Tryd.func12, Tryd.ntmps12
      go_wp2_with (first | (go_at_call 21; (with_reducible refine (RA.out _ hv.out).mono ?_); rintro e wq ⟨rfl, hb⟩; replace a0 := (hb.cell (p := ⟨w.heap.size, 0, none⟩) (block_lt_of_cell a0)).trans a0; replace a1 := (hb.cell (p := ⟨w.heap.size, 1, none⟩) (block_lt_of_cell a1)).trans a1; replace b0 := (hb.cell (p := ⟨w.heap.size + 1, 0, none⟩) (block_lt_of_cell b0)).trans b0; replace b1 := (hb.cell (p := ⟨w.heap.size + 1, 1, none⟩) (block_lt_of_cell b1)).trans b1; replace hv := Lib.hid (hv.out.trans (hb.mono hv.out.size)); clear hb) | (go_at_call 21; (with_reducible refine (RB.out _ hv.out).mono ?_); rintro e wq ⟨rfl, hb⟩; replace a0 := (hb.cell (p := ⟨w.heap.size, 0, none⟩) (block_lt_of_cell a0)).trans a0; replace a1 := (hb.cell (p := ⟨w.heap.size, 1, none⟩) (block_lt_of_cell a1)).trans a1; replace b0 := (hb.cell (p := ⟨w.heap.size + 1, 0, none⟩) (block_lt_of_cell b0)).trans b0; replace b1 := (hb.cell (p := ⟨w.heap.size + 1, 1, none⟩) (block_lt_of_cell b1)).trans b1; replace hv := Lib.hid (hv.out.trans (hb.mono hv.out.size)); clear hb))
      refine (PR.out _ hv.out).mono ?_
      rintro e w8 (⟨hag, A, c, l, rfl, hrow, hnd, hmm, hll, hb8⟩ | ⟨hag, rfl, hb8⟩)
      · have V8 : Hid (Below w.heap.size w w8) := hv.out.trans (hb8.mono hv.out.size)
        have ON := Lib.hid (once_any A c l w8 hrow hll)
        have HO : Hid (∀ r : Bool, (r = true ↔ NoShare l l.length) → R = r) := fun r hr => by
          have h1 := noshare_one hnd hmm
          cases r with
          | true => exact HT.out.2 ⟨hag, fun _ => h1.1 (hr.1 rfl)⟩
          | false =>
            cases hR : R with
            | false => rfl
            | true =>
              have := hr.2 (h1.2 ((HT.out.1 hR).2 rfl))
              cases this
        clear hag hrow hnd hmm hll hb8
        go_wp2_with fail
        refine ON.out.mono ?_
        rintro e w9 ⟨r, rfl, hr, hb9⟩
        have HR := Lib.hid (HO.out r hr)
        have V9 : Hid (Below w.heap.size w w9) := V8.out.trans (hb9.mono V8.out.size)
        clear hr hb9 HO
        go_wp2_with fail
        exact bodyPost_ret (v := .tuple #[.bool r, .int .i64 0]) (by simp [results, Tryd.results12, go_sem]) rfl ⟨by rw [HR.out], V9.out⟩
      · have HR : Hid (R = false) := by
          cases hR : R with
          | false => rfl
          | true => exact absurd (HT.out.1 hR).1 hag
        have V8 : Hid (Below w.heap.size w w8) := hv.out.trans (hb8.mono hv.out.size)
        clear hag hb8
        go_wp2_with fail
        exact bodyPost_ret (v := .tuple #[.bool false, .int .i64 0]) (by simp [results, Tryd.results12, go_sem]) rfl ⟨by rw [HR.out], V8.out⟩
set_option maxRecDepth 100000 in
set_option maxHeartbeats 3200000 in
theorem riso_any (a b : Gv) (w : World) (Ga : GrIn w a) (Gb : GrIn w b) (Sa : SmallG a.ns) (Sb : SmallG b.ns) : Calls Tryd.prog 14 #[a.val, b.val] w (TellPost (tellR a b true true) w) := by
  obtain ⟨hv, a0, a1, b0, b1⟩ := two_graphs w a b
  have RA : Hid (∀ V, Below w.heap.size w V → Calls Tryd.prog 21 #[.agg #[.slice a.A a.ns.length a.c, .int .i64 a.root]] V (BoolPost (rightN a) V)) := fun V hV => rright_any a V (Ga.below hV) Sa
  have RB : Hid (∀ V, Below w.heap.size w V → Calls Tryd.prog 21 #[.agg #[.slice b.A b.ns.length b.c, .int .i64 b.root]] V (BoolPost (rightN b) V)) := fun V hV => rright_any b V (Gb.below hV) Sb
  have PR : Hid (rightN a = true → rightN b = true → ∀ V, Below w.heap.size w V → Calls Tryd.prog 22 #[.agg #[.slice a.A a.ns.length a.c, .int .i64 a.root], .agg #[.slice b.A b.ns.length b.c, .int .i64 b.root], .bool true] V (PairsPost a b true V)) := fun ra rb V hV => pairs_any a b true V (Ga.below hV) (Gb.below hV) (Sa (right_len ra).2.1) (Sb (right_len rb).2.1) ra rb
  have HT : Hid (rightN a = true → rightN b = true → (tellN a b true true = true ↔ TellP a b true true)) := fun ra rb => tell_iff ra rb
  unfold tellR Gv.val
  clear Ga Gb Sa Sb
  generalize hra : rightN a = ra at RA PR HT
  generalize hrb : rightN b = rb at RB PR HT
  clear hra hrb
  generalize tellN a b true true = R at HT
  cases ra with
  | false =>
    rw [if_neg (fun h => (by cases h.1))]
    go_enter Tryd.func14, Tryd.ntmps14
    go_wp2_with ((go_at_call 21; (with_reducible refine (RA.out _ hv.out).mono ?_); rintro e wq ⟨rfl, hb⟩; replace a0 := (hb.cell (p := ⟨w.heap.size, 0, none⟩) (block_lt_of_cell a0)).trans a0; replace a1 := (hb.cell (p := ⟨w.heap.size, 1, none⟩) (block_lt_of_cell a1)).trans a1; replace b0 := (hb.cell (p := ⟨w.heap.size + 1, 0, none⟩) (block_lt_of_cell b0)).trans b0; replace b1 := (hb.cell (p := ⟨w.heap.size + 1, 1, none⟩) (block_lt_of_cell b1)).trans b1; replace hv := Lib.hid (hv.out.trans (hb.mono hv.out.size)); clear hb))
    exact bodyPost_ret (v := .tuple #[.bool false, .int .i64 1]) (by simp [results, Tryd.results14, go_sem]) rfl ⟨rfl, hv.out⟩
  | true =>
    cases rb with
    | false =>
      rw [if_neg (fun h => (by cases h.2))]
      go_enter Tryd.func14, Tryd.ntmps14
      go_wp2_with (first | (go_at_call 21; (with_reducible refine (RA.out _ hv.out).mono ?_); rintro e wq ⟨rfl, hb⟩; replace a0 := (hb.cell (p := ⟨w.heap.size, 0, none⟩) (block_lt_of_cell a0)).trans a0; replace a1 := (hb.cell (p := ⟨w.heap.size, 1, none⟩) (block_lt_of_cell a1)).trans a1; replace b0 := (hb.cell (p := ⟨w.heap.size + 1, 0, none⟩) (block_lt_of_cell b0)).trans b0; replace b1 := (hb.cell (p := ⟨w.heap.size + 1, 1, none⟩) (block_lt_of_cell b1)).trans b1; replace hv := Lib.hid (hv.out.trans (hb.mono hv.out.size)); clear hb) | (go_at_call 21; (with_reducible refine (RB.out _ hv.out).mono ?_); rintro e wq ⟨rfl, hb⟩; replace a0 := (hb.cell (p := ⟨w.heap.size, 0, none⟩) (block_lt_of_cell a0)).trans a0; replace a1 := (hb.cell (p := ⟨w.heap.size, 1, none⟩) (block_lt_of_cell a1)).trans a1; replace b0 := (hb.cell (p := ⟨w.heap.size + 1, 0, none⟩) (block_lt_of_cell b0)).trans b0; replace b1 := (hb.cell (p := ⟨w.heap.size + 1, 1, none⟩) (block_lt_of_cell b1)).trans b1; replace hv := Lib.hid (hv.out.trans (hb.mono hv.out.size)); clear hb))
      exact bodyPost_ret (v := .tuple #[.bool false, .int .i64 1]) (by simp [results, Tryd.results14, go_sem]) rfl ⟨rfl, hv.out⟩
    | true =>
      rw [if_pos ⟨rfl, rfl⟩]
      replace PR := Lib.hid (PR.out rfl rfl)
      replace HT := Lib.hid (HT.out rfl rfl)
      go_enter Tryd.func14, Tryd.ntmps14
      go_wp2_with (first | (go_at_call 21; (with_reducible refine (RA.out _ hv.out).mono ?_); rintro e wq ⟨rfl, hb⟩; replace a0 := (hb.cell (p := ⟨w.heap.size, 0, none⟩) (block_lt_of_cell a0)).trans a0; replace a1 := (hb.cell (p := ⟨w.heap.size, 1, none⟩) (block_lt_of_cell a1)).trans a1; replace b0 := (hb.cell (p := ⟨w.heap.size + 1, 0, none⟩) (block_lt_of_cell b0)).trans b0; replace b1 := (hb.cell (p := ⟨w.heap.size + 1, 1, none⟩) (block_lt_of_cell b1)).trans b1; replace hv := Lib.hid (hv.out.trans (hb.mono hv.out.size)); clear hb) | (go_at_call 21; (with_reducible refine (RB.out _ hv.out).mono ?_); rintro e wq ⟨rfl, hb⟩; replace a0 := (hb.cell (p := ⟨w.heap.size, 0, none⟩) (block_lt_of_cell a0)).trans a0; replace a1 := (hb.cell (p := ⟨w.heap.size, 1, none⟩) (block_lt_of_cell a1)).trans a1; replace b0 := (hb.cell (p := ⟨w.heap.size + 1, 0, none⟩) (block_lt_of_cell b0)).trans b0; replace b1 := (hb.cell (p := ⟨w.heap.size + 1, 1, none⟩) (block_lt_of_cell b1)).trans b1; replace hv := Lib.hid (hv.out.trans (hb.mono hv.out.size)); clear hb))
      refine (PR.out _ hv.out).mono ?_
      rintro e w8 (⟨hag, A, c, l, rfl, hrow, hnd, hmm, hll, hb8⟩ | ⟨hag, rfl, hb8⟩)
      · have V8 : Hid (Below w.heap.size w w8) := hv.out.trans (hb8.mono hv.out.size)
        have ON := Lib.hid (once_any A c l w8 hrow hll)
        have HO : Hid (∀ r : Bool, (r = true ↔ NoShare l l.length) → R = r) := fun r hr => by
          have h1 := noshare_one hnd hmm
          cases r with
          | true => exact HT.out.2 ⟨hag, fun _ => h1.1 (hr.1 rfl)⟩
          | false =>
            cases hR : R with
            | false => rfl
            | true =>
              have := hr.2 (h1.2 ((HT.out.1 hR).2 rfl))
              cases this
        clear hag hrow hnd hmm hll hb8
        go_wp2_with fail
        refine ON.out.mono ?_
        rintro e w9 ⟨r, rfl, hr, hb9⟩
        have HR := Lib.hid (HO.out r hr)
        have V9 : Hid (Below w.heap.size w w9) := V8.out.trans (hb9.mono V8.out.size)
        clear hr hb9 HO
        go_wp2_with fail
        exact bodyPost_ret (v := .tuple #[.bool r, .int .i64 0]) (by simp [results, Tryd.results14, go_sem]) rfl ⟨by rw [HR.out], V9.out⟩
      · have HR : Hid (R = false) := by
          cases hR : R with
          | false => rfl
          | true => exact absurd (HT.out.1 hR).1 hag
        have V8 : Hid (Below w.heap.size w w8) := hv.out.trans (hb8.mono hv.out.size)
        clear hag hb8
        go_wp2_with fail
        exact bodyPost_ret (v := .tuple #[.bool false, .int .i64 0]) (by simp [results, Tryd.results14, go_sem]) rfl ⟨by rw [HR.out], V8.out⟩
end Go.Proofs.YtpgncjfmaeiaaaaDoor.Is
