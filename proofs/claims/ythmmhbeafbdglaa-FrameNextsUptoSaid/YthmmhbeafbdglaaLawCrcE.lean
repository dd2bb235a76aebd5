import Derived.Test.YthmmhbeafbdglaaLawCrcD
namespace Go.Proofs.Ythmmhbeafbdglaa
open Go.RowKit
theorem infoU8 : (Try.prog.info? 5).map (fun i => (i.zero, i.size, i.bytes)) = some (some (.int .u8 0), 1, 1) := by kernel_rfl
/-- bytes as cells -/
def cellsOf (bs : List Nat) : List Value := bs.map fun c : Nat => Value.int .u8 (c : Int)
theorem cellsOf_length (bs : List Nat) : (cellsOf bs).length = bs.length := by simp [cellsOf]
theorem cellsOf_get {bs : List Nat} {i : Nat} (h : i < bs.length) : (cellsOf bs)[i]? = some (.int .u8 (bs.getD i 0 : Nat)) := by
  simp [cellsOf, h]
theorem cellsOf_one (bs : List Nat) : ∀ u ∈ cellsOf bs, u.oneCell' = true := by
  intro u hu
  obtain ⟨c, _, rfl⟩ := List.mem_map.1 hu
  rfl
theorem bytes_news {w : World} {b off : Nat} {bs : List Nat} (h : ∀ i : Nat, i < bs.length → w.cell? ⟨b, off + i, none⟩ = some (.int .u8 (bs.getD i 0 : Nat))) :
    ∀ j u, (cellsOf bs)[j]? = some u → w.cell? ((⟨b, off, none⟩ : Addr).add j) = some u := by
  intro j u hj
  have hl : j < bs.length := by have := (List.getElem?_eq_some_iff.1 hj).1; rwa [cellsOf_length] at this
  rw [addr_add, h j hl, ← hj, cellsOf_get hl]
/-- a row of the call's own that holds bytes -/
theorem own_bytes {w : World} {base : Nat} {v : Value} {bs : List Nat} (h : w.ownsRow base 5 1 v bs.length (cellsOf bs)) (h0 : bs ≠ []) :
    ∃ g cap cur, v = .slice (some ⟨g, 0, none⟩) bs.length cap ∧ base ≤ g ∧ w.heap[g]? = some (.cells cur 5 (0, 0)) ∧ bs.length ≤ cap ∧ cap ≤ maxLen ∧ ∀ i, i < bs.length → cur[i]? = some (.int .u8 (bs.getD i 0 : Nat)) := by
  rcases h.2 with ⟨_, hn⟩ | ⟨g, cap, cur, hv, hg, hh, hn, hm, hs, ht⟩
  · exact absurd (List.eq_nil_of_length_eq_zero hn) h0
  · refine ⟨g, cap, cur, hv, hg, hh, hn, hm, fun i hi => ?_⟩
    have h1 : (cur.toList.take (bs.length * 1))[i]? = (cellsOf bs)[i]? := by rw [ht]
    rw [cellsOf_get hi, List.getElem?_take, if_pos (by omega)] at h1
    simpa using h1
theorem more_ne (x d : Nat) (l r : List Nat) (c : Nat) (hl : AllBytes l) (hr : AllBytes r) (hc : c < 256) (hd : d < 256) (h0 : c ≠ d) : more x (l ++ c :: r) ≠ more x (l ++ d :: r) := by
  intro h
  unfold more at h
  have hx := inv_lt x
  generalize Crc.inv x = y at h hx
  have hm := Crc.run_lt l hx hl
  rw [Crc.run_append, Crc.run_append] at h
  generalize Crc.run y l = m at h hm
  have h1 : Crc.run (Crc.stp m c) r = Crc.run (Crc.stp m d) r := by
    have b1 := Crc.run_lt r (Crc.stp_lt hm hc) hr
    have b2 := Crc.run_lt r (Crc.stp_lt hm hd) hr
    have : Crc.inv (Crc.run (Crc.stp m c) r) = Crc.inv (Crc.run (Crc.stp m d) r) := h
    unfold Crc.inv at this
    omega
  have h2 := Crc.run_inj r (Crc.stp_lt hm hc) (Crc.stp_lt hm hd) hr h1
  have h3 := Crc.halves_inj 8 (Crc.xor_lt hm (by omega)) (Crc.xor_lt hm (by omega)) h2
  exact h0 (Crc.xor_cancel h3)
theorem xor8 (x y : Nat) (hx : x < 256) (hy : y < 256) : bits .xor .u8 (x : Int) (y : Int) = ((x ^^^ y : Nat) : Int) := u8_xor_nat x y hx hy
theorem set_split {bs : List Nat} {k : Nat} (h : k < bs.length) (d : Nat) : bs.set k d = bs.take k ++ d :: bs.drop (k + 1) := by
  rw [List.set_eq_take_append_cons_drop, if_pos h]
theorem self_split {bs : List Nat} {k : Nat} (h : k < bs.length) : bs = bs.take k ++ bs.getD k 0 :: bs.drop (k + 1) := by
  rw [List.getD_eq_getElem?_getD, List.getElem?_eq_getElem h]
  show bs = bs.take k ++ bs[k] :: bs.drop (k + 1)
  rw [List.getElem_cons_drop, List.take_append_drop]
theorem turned_ne {bs : List Nat} {k by_ : Nat} (hb : AllBytes bs) (hk : k < bs.length) (h0 : by_ ≠ 0) (hby : by_ < 256) : sumL [bs] ≠ sumL [bs.set k (bs.getD k 0 ^^^ by_)] := by
  rw [sum_eq, sum_eq, set_split hk]
  conv => lhs; rw [self_split hk]
  have hc := hb.getD k
  refine more_ne 0 _ _ _ _ (hb.take k) (hb.drop (k + 1)) hc (Nat.xor_lt_two_pow (n := 8) hc hby) ?_
  intro h
  have : bs.getD k 0 ^^^ 0 = bs.getD k 0 ^^^ by_ := by rw [Nat.xor_zero]; exact h
  exact h0 (Crc.xor_cancel this).symm

set_option maxHeartbeats 400000 in
theorem turned_alive1 (w : World) (A : Option Addr) (cap : Nat) (a : Int) (by_ : Nat) :
    Calls Try.prog 5 #[.slice A 0 cap, .int .i64 a, .int .u8 by_] w (LawPost w) := by
  go_enter Try.func5, Try.ntmps5
  go_wp2_with fail
  refine (calive_any _).mono ?_
  rintro e w8 ⟨rfl, hb⟩
  have B8 := Lib.hid hb
  clear hb
  go_wp2_with fail
  go_ret
  exact ⟨rfl, B8.out⟩
set_option maxHeartbeats 400000 in
theorem turned_alive2 (w : World) (A : Option Addr) (n cap : Nat) (a : Int) (hn : ((n : Int) == 0) = false) :
    Calls Try.prog 5 #[.slice A n cap, .int .i64 a, .int .u8 0] w (LawPost w) := by
  go_enter Try.func5, Try.ntmps5
  go_wp2_with fail
  refine (calive_any _).mono ?_
  rintro e w8 ⟨rfl, hb⟩
  have B8 := Lib.hid hb
  clear hb
  go_wp2_with fail
  go_ret
  exact ⟨rfl, B8.out⟩

set_option maxHeartbeats 1000000 in
theorem turned_core (w : World) (b off cap : Nat) (bs : List Nat) (a t : Int) (k by_ : Nat) (g : BytesIn w (some ⟨b, off, none⟩) cap bs) (hl : bs.length ≤ 140737488351232) (HN : Hid (bs ≠ []))
    (hn : ((bs.length : Int) == 0) = false) (hn0 : (0 : Int) < (bs.length : Int)) (hby : ((by_ : Int) == 0) = false) (hbl : by_ < 256)
    (HC : Hid (∀ i : Nat, i < bs.length → w.cell? ⟨b, off + i, none⟩ = some (.int .u8 (bs.getD i 0 : Nat))))
    (ht : a.tmod (bs.length : Int) = t) (ht1 : -(bs.length : Int) ≤ t) (ht2 : t ≤ (bs.length : Int)) (hk : (t + (bs.length : Int)) % (bs.length : Int) = (k : Int)) (hk2 : (k : Int) < (bs.length : Int)) :
    Calls Try.prog 5 #[.slice (some ⟨b, off, none⟩) bs.length cap, .int .i64 a, .int .u8 by_] w (LawPost w) := by
  obtain ⟨i0, hi, hz0, hz1, hz2⟩ := info_parts infoU8
  go_enter Try.func5, Try.ntmps5
  go_wp2_with (at_builtin; refine wpList_append_own _ rfl _ _ 28 rfl w.heap.size 5 i0 (.int .u8 0) 1 1 Try.underlying28 hi hz0 hz1 hz2 rfl (by decide) _ 0 [] rfl (World.ownsRow_nil _ _ _ _) ⟨b, off, none⟩ bs.length cap (cellsOf bs) rfl ?c1 ?c2 ?c3 ?c4 ?c5 (Nat.le_refl _) ?_)
  case c1 => rw [cellsOf_length]; omega
  case c2 => exact bytes_news HC.out
  case c3 => exact cellsOf_one bs
  case c4 => unfold maxLen; omega
  case c5 => omega
  intro v' w1 hown hgrow _
  have hb1 : Below w.heap.size w w1 := (Below.refl _ _).grown hgrow (Nat.le_refl _) (fun k hk => by cases hk)
  obtain ⟨gb, cap', cur, hv, hgb, hblk, hcap, hcm, hcur⟩ := own_bytes hown HN.out
  rw [hv]
  have hcell : w1.cell? ⟨gb, k, none⟩ = some (.int .u8 (bs.getD k 0 : Nat)) := (block_cell hblk k).trans (hcur k (by omega))
  have hfr := block_free hblk k
  have hcb := g.bytes.getD k
  have hx := xor8 (bs.getD k 0) by_ hcb hbl
  have HNE := Lib.hid (turned_ne (k := k) g.bytes (by omega) (by intro h; subst h; simp at hby) hbl)
  have HBS : Hid (AllBytes (bs.set k (bs.getD k 0 ^^^ by_))) := by
    intro c hc
    rcases List.mem_or_eq_of_mem_set hc with h | h
    · exact g.bytes c h
    · rw [h]; exact Nat.xor_lt_two_pow (n := 8) hcb hbl
  have HAT : Hid (BytesAt (w1.setCell ⟨gb, k, none⟩ (.int .u8 (bs.getD k 0 ^^^ by_ : Nat))) (some ⟨gb, 0, none⟩) (bs.set k (bs.getD k 0 ^^^ by_))) := by
    have h2 := block_set hblk k (.int .u8 (bs.getD k 0 ^^^ by_ : Nat))
    refine Or.inr ⟨gb, 0, rfl, block_lt h2, fun i hi => ?_⟩
    have hi' : i < bs.length := by simpa using hi
    rw [Nat.zero_add, block_cell h2, Array.getElem?_setIfInBounds]
    by_cases hki : k = i
    · subst hki
      have hcs : k < cur.size := by
        have := hcur k hi'
        exact (Array.getElem?_eq_some_iff.1 this).1
      rw [if_pos rfl, if_pos hcs]
      simp [List.getD_eq_getElem?_getD, List.getElem?_set, hi']
    · rw [if_neg hki, hcur i hi']
      simp [List.getD_eq_getElem?_getD, List.getElem?_set, hki]
  have B1 : Hid (Below w.heap.size w (w1.setCell ⟨gb, k, none⟩ (.int .u8 (bs.getD k 0 ^^^ by_ : Nat)))) := hb1.setCell hgb _
  have HL : Hid ((bs.set k (bs.getD k 0 ^^^ by_)).length = bs.length) := List.length_set
  generalize bs.set k (bs.getD k 0 ^^^ by_) = cs at HNE HBS HAT HL
  generalize bs.getD k 0 ^^^ by_ = d at hx HAT B1
  generalize bs.getD k 0 = c at hcell hx
  clear hown hgrow hv hblk hcur hb1
  go_wp2_with fail
  have hsz : (w1.setCell ⟨gb, k, none⟩ (.int .u8 (d : Nat))).heap.size = w1.heap.size := by simp [World.setCell]
  rw [← hsz]
  clear hsz hcell hfr hx
  generalize w1.setCell ⟨gb, k, none⟩ (.int .u8 (d : Nat)) = w2 at HAT B1 ⊢
  have hne : ((sumL [bs] : Int) != (sumL [cs] : Int)) = true := by
    have := HNE.out
    simp; omega
  refine (sum_one (some ⟨b, off, none⟩) cap bs w2 (g.below B1.out)).mono ?_
  rintro e w3 ⟨rfl, hb⟩
  have B3 := Lib.hid hb
  clear hb
  go_wp2_with fail
  rw [← HL.out]
  refine (sum_one (some ⟨gb, 0, none⟩) cap' cs w3 ⟨HBS.out, HAT.out.below B3.out, by rw [HL.out]; exact hcap, by rw [HL.out]; omega, fun h => by cases h⟩).mono ?_
  rintro e w4 ⟨rfl, hb⟩
  have B4 := Lib.hid (B1.out.trans ((B3.out.trans (hb.mono B3.out.size)).mono B1.out.size))
  clear hb
  go_wp2_with fail
  refine (calive_any _).mono ?_
  rintro e w8 ⟨rfl, hb⟩
  have B8 := Lib.hid (B4.out.trans (hb.mono B4.out.size))
  clear hb
  go_wp2_with fail
  go_ret
  exact ⟨rfl, B8.out⟩

theorem law_CrcTurned (w : World) (A : Option Addr) (cap : Nat) (bs : List Nat) (g : BytesIn w A cap bs) (hl : bs.length ≤ 140737488351232) (a : Int) (_ha : -9223372036854775808 ≤ a ∧ a ≤ 9223372036854775807)
    (by_ : Nat) (hby : by_ < 256) :
    Calls Try.prog 5 #[.slice A bs.length cap, .int .i64 a, .int .u8 by_] w (LawPost w) := by
  by_cases h0 : bs = []
  · subst h0
    exact turned_alive1 w A cap a by_
  have hpos := List.length_pos_iff.2 h0
  by_cases hz : by_ = 0
  · subst hz
    exact turned_alive2 w A bs.length cap a (by simp; exact h0)
  have h1 := Int.lt_tmod_of_pos a (show (0 : Int) < (bs.length : Int) by omega)
  have h2 := Int.tmod_lt_of_pos a (show (0 : Int) < (bs.length : Int) by omega)
  obtain ⟨k, hk, hk2⟩ : ∃ k : Nat, (a.tmod (bs.length : Int) + (bs.length : Int)) % (bs.length : Int) = (k : Int) ∧ k < bs.length := by
    have h3 := Int.emod_nonneg (a.tmod (bs.length : Int) + (bs.length : Int)) (show (bs.length : Int) ≠ 0 by omega)
    have h4 := Int.emod_lt_of_pos (a.tmod (bs.length : Int) + (bs.length : Int)) (show (0 : Int) < (bs.length : Int) by omega)
    exact ⟨_, (Int.toNat_of_nonneg h3).symm, by omega⟩
  rcases g.at_ with h | ⟨b, off, rfl, hb, hc⟩
  · exact absurd h h0
  · exact turned_core w b off cap bs a _ k by_ g hl h0 (by simp; exact h0) (by omega) (by simp; exact hz) hby hc rfl (by omega) (by omega) hk (by omega)
end Go.Proofs.Ythmmhbeafbdglaa
