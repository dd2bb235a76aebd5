/- Walk: the document's lines of a block. Conditions: the rows are no more than 10000, their bytes no more than 10^8. -/
import Derived.Test.YtnggbhpnpomfjaaBlMark
set_option linter.unusedVariables false
namespace Go.Proofs.Ytnggbhpnpomfjaa
open Go.RowKit
def strVs (L : List (List UInt8)) : List Value := L.map fun l => Value.string ⟨l.toArray⟩
theorem linesT_succ (rs : List Rw) (k : Nat) : linesT rs (k + 1) = linesT rs k ++ [lineT rs k] := by
  unfold linesT; rw [List.range_succ, List.map_append]; rfl
theorem linesT_len (rs : List Rw) (k : Nat) : (linesT rs k).length = k := by simp [linesT]
theorem strVs_len (L : List (List UInt8)) : (strVs L).length = L.length := by simp [strVs]
theorem linesT_take (rs : List Rw) {m n : Nat} (h : m ≤ n) : (linesT rs n).take m = linesT rs m := by
  unfold linesT; rw [← List.map_take, List.take_range, Nat.min_eq_left h]
theorem bl_row_ne {w : World} {base g : Nat} {e t : TypeId} {size n : Nat} {v : Value} {xs : List Value} {cs : Array Value} {fr : Nat × Nat} (h : w.ownsRow base e size v n xs) (hb : w.heap[g]? = some (.cells cs t fr)) (hne : e ≠ t) : some g ≠ v.ownBlock := by
  intro he
  rcases h.2 with ⟨rfl, _⟩ | ⟨b, cap, cur, rfl, _, hh, _⟩
  · cases he
  · have : g = b := by simpa [Value.ownBlock] using he
    subst this
    rw [hh] at hb
    injection hb with hb
    injection hb with _ h2 _
    exact hne h2
theorem bl_own_len {w : World} {base : Nat} {e : TypeId} {size n : Nat} {v : Value} {xs : List Value} (h : w.ownsRow base e size v n xs) : ∃ A c, v = .slice A n c ∧ n ≤ c := by
  rcases h.2 with ⟨rfl, h0⟩ | ⟨g, cap, cur, rfl, _, _, hc, _⟩
  · exact ⟨none, 0, by rw [h0], by omega⟩
  · exact ⟨_, _, rfl, hc⟩
theorem bl_own_below {w w' : World} {base : Nat} {e : TypeId} {size n : Nat} {v : Value} {xs : List Value} (h : w.ownsRow base e size v n xs) (hb : Below w.heap.size w w') : w'.ownsRow base e size v n xs := by
  refine ⟨h.1, ?_⟩
  rcases h.2 with h2 | ⟨b, cap, cur, hv, hge, hh, r⟩
  · exact Or.inl h2
  · exact Or.inr ⟨b, cap, cur, hv, hge, (hb.block b (bl_block_lt hh)).trans hh, r⟩
theorem strs_own {w : World} {base : Nat} {A : Option Addr} {c n : Nat} {L : List (List UInt8)} (h : w.ownsRow base 9 1 (.slice A n c) n (strVs L)) (hn : L.length = n) {m : Nat} (hm : m ≤ n) : StrsIn w A c ((L.take m).map fun l => (⟨l.toArray⟩ : ByteArray)) := by
  have hlen : ((L.take m).map fun l => (⟨l.toArray⟩ : ByteArray)).length = m := by simp; omega
  rcases h.2 with ⟨he, h0⟩ | ⟨g, cap, cur, he, _, hh, hn', _, hc, ht⟩
  · simp only [Value.slice.injEq] at he
    obtain ⟨rfl, _, rfl⟩ := he
    exact ⟨fun i hi => by rw [hlen] at hi; omega, by rw [hlen]; omega⟩
  · simp only [Value.slice.injEq] at he
    obtain ⟨rfl, _, rfl⟩ := he
    refine ⟨fun i hi => ⟨g, 0, rfl, bl_block_lt hh, ?_⟩, by rw [hlen]; omega⟩
    rw [hlen] at hi
    rw [Nat.zero_add, bl_block_cell hh]
    have e : cur.toList[i]? = (strVs L)[i]? := by rw [← ht, List.getElem?_take, if_pos (by omega)]
    rw [← Array.getElem?_toList, e]
    have hi2 : i < L.length := by omega
    simp [strVs, List.getD_eq_getElem?_getD, hi, hi2]
theorem wpList_append_str {w : World} {ops : Array Oper} {rest : List Oper} {o : Oper} {a : Act} {Q : Exit → Act → World → Prop} (hgd : o.guard = none) (s x : Operand) (ho : o.op = .call { callee := .builtin .append, args := #[s, x], argTypes := #[22, 22] })
    (base : Nat) (v : Value) (n : Nat) (L : List (List UInt8)) (hs : a.eval s = v) (hown : w.ownsRow base 9 1 v n (strVs L)) (str : ByteArray) (hx : a.eval x = .slice (some ⟨w.heap.size, 0, none⟩) 1 1) (hn : n ≤ 10000) (hb : base ≤ w.heap.size)
    (h : ∀ v' w', w'.ownsRow base 9 1 v' (n + 1) (strVs L ++ [.string str]) → (w.alloc (.cells #[.string str] 9)).grownBy w' v.ownBlock → wpList Try.prog ops Q rest (a.put o.dst v') w') : wpList Try.prog ops Q (o :: rest) a (w.alloc (.cells #[.string str] 9)) := by
  obtain ⟨i0, hi, hz0, hz1, hz2⟩ := info_parts bl_infoStr
  refine wpList_append_own _ hgd s x 22 ho base 9 i0 (.string ⟨#[]⟩) 1 16 Try.underlying22 hi hz0 hz1 hz2 rfl (by decide) v n (strVs L) hs (bl_own_below hown ((Below.refl _ _).alloc (Nat.le_refl _) _)) ⟨w.heap.size, 0, none⟩ 1 1 [.string str] hx rfl ?_ ?_ (by unfold maxLen; omega) (by omega) (by simp; omega) (fun v' w' h1 h2 _ => h v' w' h1 h2)
  · intro j u hj
    rcases j with _ | j
    · simp at hj; subst hj
      simp [Addr.add]
    · simp at hj
  · intro u hu; simp at hu; subst hu; rfl
def LinesPost (rs : List Rw) (col : Int) (w : World) (e : Ending) (w' : World) : Prop :=
  Below w.heap.size w w' ∧ ((∃ k, badAt rs (cntT rs col) = some k ∧ e = .returned (.tuple #[.slice none 0 0, .int .i64 0, .int .i64 0, .agg #[.int .i64 9, .int .i64 (rs.getD k rw0).ln]])) ∨
    (badAt rs (cntT rs col) = none ∧ ∃ A c, e = .returned (.tuple #[.slice A (endT rs (cntT rs col)) c, .int .i64 ((cntT rs col : Nat) - (endT rs (cntT rs col) : Nat)), .int .i64 (cntT rs col : Nat), .agg #[.int .i64 0, .int .i64 0]]) ∧
      StrsIn w' A c ((linesT rs (endT rs (cntT rs col))).map fun l => (⟨l.toArray⟩ : ByteArray))))
set_option maxRecDepth 100000 in
set_option maxHeartbeats 3200000 in
theorem rlines_any (A : Option Addr) (c : Nat) (rs : List Rw) (col : Int) (w : World) (g : RowsIn w A c rs) (hl : rs.length ≤ 10000) (hbk : bulkT rs ≤ 100000000) :
    Calls Try.prog 30 #[.slice A rs.length c, .int .i64 col] w (LinesPost rs col w) := by
  obtain ⟨i0, hi, hz0, hz1, hz2⟩ := info_parts bl_infoStr
  have G := Lib.hid g
  have HR := Lib.hid (Kept.first w 32 #[.int .i64 0, .int .i64 0])
  clear g
  go_enter Try.func30, Try.ntmps30
  go_wp2_with fail
  go_loopw [8] (fun u wr => ∃ k : Nat, k ≤ rs.length ∧ u = .int .i64 (k : Nat) ∧ Hid (∀ j, j < k → (rs.getD j rw0).lies col = false) ∧ wr = w.alloc (.cells #[.int .i64 0, .int .i64 0] 32)) (fun u _ => rs.length - (intOf u).toNat)
  case atStart => exact ⟨0, Nat.zero_le _, rfl, (fun j h => by omega), rfl⟩
  case round =>
    obtain ⟨k, hk, rfl, hno, rfl⟩ := hrel
    by_cases hgo : k < rs.length ∧ (rs.getD k rw0).lies col = false
    · obtain ⟨hlt, hls⟩ := hgo
      have hlt' : (k : Int) < (rs.length : Int) := by omega
      obtain ⟨b, off, hA, hbl, c0, c1, c2⟩ := (G.out.below HR.out.2).at_ k hlt
      have HN : Hid (∀ j, j < k + 1 → (rs.getD j rw0).lies col = false) := fun j hj => by
        rcases Nat.lt_or_ge j k with h1 | h1
        · exact hno.out j h1
        · have : j = k := by omega
          subst this; exact hls
      generalize rs.getD k rw0 = r at c0 c1 c2 hls
      subst hA
      cases he : r.em with
      | true =>
        obtain ⟨e1, e2, e3, e4, e5⟩ := empty_facts (Rw.em_true he)
        clear he hls hno
        go_wp2_with fail
        go_roundw
        case rel => exact ⟨k + 1, by omega, by go_num, HN.out, by first | rfl | trivial⟩
        case measure => simp [intOf]; omega
      | false =>
        obtain ⟨e1, e2, e3, e4, e5⟩ := nonempty_facts (Rw.em_false he)
        have hcc : col < max r.col 0 := by
          unfold Rw.lies at hls
          rw [he] at hls
          have : ¬ (r.at_ ≤ col) := by simpa using hls
          unfold Rw.at_ at this
          omega
        generalize hmx : max r.col 0 = a at hcc
        clear he hls hno
        go_wp2_with fail
        go_roundw
        case rel => exact ⟨k + 1, by omega, by go_num, HN.out, by first | rfl | trivial⟩
        case measure => simp [intOf]; omega
    · have HC : Hid (cntT rs col = k) := by
        show _ = _
        by_cases hlt : k < rs.length
        · cases hq : (rs.getD k rw0).lies col with
          | false => exact absurd ⟨hlt, hq⟩ hgo
          | true => exact cnt_stop hlt hq hno.out
        · have : rs.length = k := by omega
          rw [cnt_end (fun j hj => hno.out j (by omega))]
          exact this
      have hend : (k < rs.length ∧ (rs.getD k rw0).lies col = true) ∨ k = rs.length := by
        by_cases hlt : k < rs.length
        · cases hq : (rs.getD k rw0).lies col with
          | false => exact absurd ⟨hlt, hq⟩ hgo
          | true => exact Or.inl ⟨hlt, rfl⟩
        · exact Or.inr (by omega)
      clear hgo hno
      have hstop : ∀ Q : Prop, Q → Q := fun _ h => h
      clear hstop
      rcases hend with ⟨hlt, hls⟩ | hlt
      case' inl =>
        have hlt' : (k : Int) < (rs.length : Int) := by omega
        obtain ⟨b, off, hA, hbl, c0, c1, c2⟩ := (G.out.below HR.out.2).at_ k hlt
        have he : (rs.getD k rw0).em = false := by
          unfold Rw.lies at hls
          cases hq : (rs.getD k rw0).em with
          | false => rfl
          | true => rw [hq] at hls; simp at hls
        have hcc : max (rs.getD k rw0).col 0 ≤ col := by
          unfold Rw.lies at hls
          rw [he] at hls
          have : (rs.getD k rw0).at_ ≤ col := by simpa using hls
          exact this
        generalize rs.getD k rw0 = r at c0 c1 c2 he hcc
        obtain ⟨e1, e2, e3, e4, e5⟩ := nonempty_facts (Rw.em_false he)
        generalize hmx : max r.col 0 = a at hcc
        have hcn : decide (col < a) = false := decide_eq_false (by omega)
        clear he hls
        subst hA
        go_wp2_with fail
      case' inr =>
        have hltn : decide (k < rs.length) = false := decide_eq_false (by omega)
        have HKL := Lib.hid hlt
        clear hlt
        go_wp2_with fail
      all_goals
        have hkl : k ≤ rs.length := by first | exact hk | (have := HKL.out; omega)
        have hkn : k ≤ 10000 := by omega
        have HK0 : Hid (Kept w (w.alloc (.cells #[.int .i64 0, .int .i64 0] 32)) 32 #[.int .i64 0, .int .i64 0]) := HR.out
        clear HR hi
        obtain ⟨i0, hi, hz0, hz1, hz2⟩ := info_parts bl_infoStr
        go_loopw [9, 10, 11, 12] (fun u9 u10 u11 u12 wr => ∃ (i : Nat) (row : Value), i ≤ k ∧ u9 = .int .i64 (baseT rs i) ∧ row = u11 ∧ u10 = .int .i64 (endT rs i : Nat) ∧ u12 = .int .i64 (i : Nat) ∧ Hid (wr.ownsRow w.heap.size 9 1 row i (strVs (linesT rs i))) ∧ Hid (∀ j, j < i → badT rs j = false) ∧ Hid (Kept w wr 32 #[.int .i64 0, .int .i64 0])) (fun _ _ _ u12 _ => k - (intOf u12).toNat)
        case atStart => exact ⟨0, _, Nat.zero_le _, rfl, rfl, rfl, rfl, World.ownsRow_nil _ _ _ _, (fun j h => by omega), HK0.out⟩
        case round =>
          obtain ⟨i, row, hik, rfl, rfl, rfl, rfl, HO, hnb, HK⟩ := hrel
          clear HK0
          by_cases hlt2 : i < k
          · have hlt2' : (i : Int) < (k : Int) := by omega
            have hltr : (i : Int) < (rs.length : Int) := by omega
            obtain ⟨b, off, hA, hbl, c0, c1, c2⟩ := (G.out.below HK.out.2).at_ i (by omega)
            have hrg := G.out.rng i (by omega)
            have hzr := bulkT_one rs i (by omega)
            have hNB : Hid (badT rs i = false → ∀ j, j < i + 1 → badT rs j = false) := fun h j hj => by
              rcases Nat.lt_or_ge j i with h1 | h1
              · exact hnb.out j h1
              · have : j = i := by omega
                subst this; exact h
            have HBAD : Hid (badT rs i = true → badAt rs (cntT rs col) = some i ∧ (rs.getD i rw0).ln = (rs.getD i rw0).ln) := fun h => by
              rw [HC.out]
              exact ⟨badAt_some hlt2 h hnb.out, rfl⟩
            have hbg := baseT_ge rs i
            have HBase : Hid (baseT rs (i + 1) = if (rs.getD i rw0).em = true then baseT rs i else if baseT rs i < 0 then (rs.getD i rw0).at_ else baseT rs i) := rfl
            have HEnd : Hid (endT rs (i + 1) = if (rs.getD i rw0).em = true then endT rs i else i + 1) := rfl
            have HBd : Hid (badT rs i = (!(rs.getD i rw0).em && (decide ((rs.getD i rw0).at_ < baseT rs (i + 1)) || decide (65536 < (rs.getD i rw0).at_ - baseT rs (i + 1))))) := rfl
            have HLine : Hid (lineT rs i = if (rs.getD i rw0).em = true then [] else List.replicate ((rs.getD i rw0).at_ - baseT rs (i + 1)).toNat 32 ++ (rs.getD i rw0).txt.data.toList) := rfl
            obtain ⟨r, hr⟩ : ∃ r, rs.getD i rw0 = r := ⟨_, rfl⟩
            rw [hr] at c0 c1 c2 hrg hzr HBase HEnd HBd HLine
            have HBAD : Hid (badT rs i = true → badAt rs (cntT rs col) = some i ∧ (rs.getD i rw0).ln = r.ln) := fun h => ⟨(HBAD.out h).1, by rw [hr]⟩
            clear hr
            obtain ⟨bs, hbs0⟩ : ∃ b, baseT rs i = b := ⟨_, rfl⟩
            rw [hbs0] at hbg HBase ⊢
            obtain ⟨es, hes0⟩ : ∃ b, endT rs i = b := ⟨_, rfl⟩
            rw [hes0] at HEnd ⊢
            clear hbs0 hes0
            obtain ⟨g1, g2, g3, g4⟩ := hrg
            clear hnb
            first | subst hA | cases hA
            cases he : r.em with
            | true =>
              obtain ⟨e1, e2, e3, e4, e5⟩ := empty_facts (Rw.em_true he)
              have hb' : Hid (baseT rs (i + 1) = bs) := by show _ = _; rw [HBase.out, he]; rfl
              have he' : Hid (endT rs (i + 1) = es) := by show _ = _; rw [HEnd.out, he]; rfl
              have hn' : Hid (badT rs i = false) := by show _ = _; rw [HBd.out, he]; rfl
              have HS : Hid ((⟨#[]⟩ : ByteArray).data.toList = lineT rs i) := by show _ = _; rw [HLine.out, he]; rfl
              clear he HBase HEnd HBd HLine HBAD
              have hws := HK.out.2.size
              go_wp2_with (at_builtin; refine wpList_append_str rfl _ _ rfl w.heap.size row i (linesT rs i) rfl HO.out (⟨#[]⟩) rfl (by omega) hws ?_)
              intro v' w2 hown hgrow
              have hblt := bl_block_lt HK.out.1
              have HK2 : Hid (Kept w w2 32 #[.int .i64 0, .int .i64 0]) := by
                refine ⟨?_, (HK.out.2.alloc HK.out.2.size _).grown hgrow (by have := HK.out.2.size; simp; omega) (fun g hg => (HO.out.lt g hg).1)⟩
                rw [hgrow.block _ (by simp; omega) (bl_row_ne HO.out HK.out.1 (by decide))]
                exact (Below.heap_alloc wr _ _ hblt).trans HK.out.1
              have HO2 : Hid (w2.ownsRow w.heap.size 9 1 v' (i + 1) (strVs (linesT rs (i + 1)))) := by
                show World.ownsRow _ _ _ _ _ _ _
                have e : strVs (linesT rs (i + 1)) = strVs (linesT rs i) ++ [.string (⟨#[]⟩)] := by
                  rw [linesT_succ]
                  unfold strVs
                  first | rw [List.map_append, List.map_cons, List.map_nil, ← HS.out, bl_str] | rw [List.map_append, List.map_cons, List.map_nil, ← HS.out]
                rw [e]
                exact hown
              clear hown hgrow
              go_wp2_with fail
              go_roundw
              case rel => exact ⟨i + 1, v', by omega, by rw [hb'.out], rfl, by rw [he'.out]; try go_num, by go_num, HO2.out, hNB.out hn'.out, HK2.out⟩
              case measure => simp [intOf]; omega
            | false =>
              obtain ⟨e1, e2, e3, e4, e5⟩ := nonempty_facts (Rw.em_false he)
              have HBase : Hid (baseT rs (i + 1) = if bs < 0 then r.at_ else bs) := by show _ = _; rw [HBase.out, he]; rfl
              have he' : Hid (endT rs (i + 1) = i + 1) := by show _ = _; rw [HEnd.out, he]; rfl
              have HBd : Hid (badT rs i = (decide (r.at_ < baseT rs (i + 1)) || decide (65536 < r.at_ - baseT rs (i + 1)))) := by show _ = _; rw [HBd.out, he]; rfl
              have HLine : Hid (lineT rs i = List.replicate (r.at_ - baseT rs (i + 1)).toNat 32 ++ r.txt.data.toList) := by show _ = _; rw [HLine.out, he]; rfl
              obtain ⟨a, ha⟩ : ∃ a, r.at_ = a := ⟨_, rfl⟩
              have ha0 : 0 ≤ a := by rw [← ha]; exact r.at_pos
              have ha1 : a ≤ 9223372036854775807 := by rw [← ha]; unfold Rw.at_; omega
              have hmx2 : max r.col 0 = a := ha
              rw [ha] at HBase HBd HLine
              clear he HEnd ha
              by_cases hb0 : bs < 0
              · have hb' : Hid (baseT rs (i + 1) = a) := by show _ = _; rw [HBase.out, if_pos hb0]
                have hd0 : a - a = 0 := by omega
                have hn' : Hid (badT rs i = false) := by show _ = _; rw [HBd.out, hb'.out]; first | (simp; done) | (simp; omega)
                obtain ⟨D, hD⟩ : ∃ D : Nat, a - a = (D : Int) := ⟨(a - a).toNat, by omega⟩
                have hDl : D ≤ 65536 := by omega
                have HLn : Hid (lineT rs i = List.replicate D 32 ++ r.txt.data.toList) := by show _ = _; rw [HLine.out, hb'.out, hD]; rfl
                clear HBase HBd HLine HBAD
                go_wp2_with fail
                go_loop [13, 15] (fun u v => ∃ (j : Nat) (o : ByteArray), j ≤ D ∧ u = .string o ∧ v = .int .i64 (a + (j : Int)) ∧ Hid (o.data.toList = List.replicate j 32)) (fun _ v => (a - intOf v).toNat)
                case atStart => exact ⟨0, ⟨#[]⟩, Nat.zero_le _, rfl, by simp, rfl⟩
                case round =>
                  obtain ⟨j, o, hj, rfl, rfl, ho⟩ := hrel
                  have hoz : o.size = j := by rw [← bl_size, ho.out]; simp
                  obtain rfl : j = 0 := by omega
                  by_cases hjd : (0:Nat) < 0
                  · exact absurd hjd (Nat.lt_irrefl _)
                  · skip
                    have hadd : o.size + r.txt.size ≤ 9223372036854775807 := by omega
                    have HS : Hid ((o ++ r.txt).data.toList = lineT rs i) := by show _ = _; rw [cat_data, ho.out, HLn.out, show 0 = D by omega]
                    clear ho hjd
                    have hws := HK.out.2.size
                    go_wp2_with (at_builtin; refine wpList_append_str rfl _ _ rfl w.heap.size row i (linesT rs i) rfl HO.out (o ++ r.txt) rfl (by omega) hws ?_)
                    intro v' w2 hown hgrow
                    have hblt := bl_block_lt HK.out.1
                    have HK2 : Hid (Kept w w2 32 #[.int .i64 0, .int .i64 0]) := by
                      refine ⟨?_, (HK.out.2.alloc HK.out.2.size _).grown hgrow (by have := HK.out.2.size; simp; omega) (fun g hg => (HO.out.lt g hg).1)⟩
                      rw [hgrow.block _ (by simp; omega) (bl_row_ne HO.out HK.out.1 (by decide))]
                      exact (Below.heap_alloc wr _ _ hblt).trans HK.out.1
                    have HO2 : Hid (w2.ownsRow w.heap.size 9 1 v' (i + 1) (strVs (linesT rs (i + 1)))) := by
                      show World.ownsRow _ _ _ _ _ _ _
                      have e : strVs (linesT rs (i + 1)) = strVs (linesT rs i) ++ [.string (o ++ r.txt)] := by
                        rw [linesT_succ]
                        unfold strVs
                        first | rw [List.map_append, List.map_cons, List.map_nil, ← HS.out, bl_str] | rw [List.map_append, List.map_cons, List.map_nil, ← HS.out]
                      rw [e]
                      exact hown
                    clear hown hgrow
                    go_wp2_with fail
                    go_roundw
                    case rel => exact ⟨i + 1, v', by omega, by rw [hb'.out], rfl, by rw [he'.out]; try go_num, by go_num, HO2.out, hNB.out hn'.out, HK2.out⟩
                    case measure => simp [intOf]; omega
              · have hb' : Hid (baseT rs (i + 1) = bs) := by show _ = _; rw [HBase.out, if_neg hb0]
                have hb1 : decide (bs < 0) = false := decide_eq_false hb0
                have hb2 : 0 ≤ bs := by omega
                clear hb0
                by_cases h1 : a < bs
                · have h1' : decide (a < bs) = true := decide_eq_true h1
                  have HV := Lib.hid (HBAD.out (by rw [HBd.out, hb'.out]; simp; omega))
                  clear HBase HBd HLine HBAD hNB HO
                  have f0 := bl_block_cell HK.out.1 0
                  have f1 := bl_block_cell HK.out.1 1
                  have f2 := bl_block_free HK.out.1 0
                  have f3 := bl_block_free HK.out.1 1
                  go_wp2_with fail
                  go_region
                  all_goals
                    go_wp2_with fail
                    have hbs := bl_block_set (bl_block_set HK.out.1 0 (.int .i64 9)) 1 (.int .i64 r.ln)
                    have z0 := bl_block_cell hbs 0
                    have z1 := bl_block_cell hbs 1
                    refine bodyPost_ret (v := .tuple #[.slice none 0 0, .int .i64 0, .int .i64 0, .agg #[.int .i64 9, .int .i64 r.ln]]) (by simp [results, Try.results30, go_sem, z0, z1]) rfl ⟨?_, Or.inl ⟨i, HV.out.1, by rw [HV.out.2]⟩⟩
                    first
                      | exact ((HK.out.2.setCell (p := ⟨w.heap.size, 0, none⟩) (Nat.le_refl _) _).setCell (p := ⟨w.heap.size, 1, none⟩) (Nat.le_refl _) _).drew
                      | exact ((HK.out.2.drew.setCell (p := ⟨w.heap.size, 0, none⟩) (Nat.le_refl _) _).setCell (p := ⟨w.heap.size, 1, none⟩) (Nat.le_refl _) _)
                · have h1' : decide (a < bs) = false := decide_eq_false h1
                  have h1n : bs ≤ a := by omega
                  clear h1
                  by_cases h2 : 65536 < a - bs
                  · have h2' : decide (65536 < a - bs) = true := decide_eq_true h2
                    have HV := Lib.hid (HBAD.out (by rw [HBd.out, hb'.out]; simp; omega))
                    clear HBase HBd HLine HBAD hNB HO
                    have f0 := bl_block_cell HK.out.1 0
                    have f1 := bl_block_cell HK.out.1 1
                    have f2 := bl_block_free HK.out.1 0
                    have f3 := bl_block_free HK.out.1 1
                    go_wp2_with fail
                    go_region
                    all_goals
                      go_wp2_with fail
                      have hbs := bl_block_set (bl_block_set HK.out.1 0 (.int .i64 9)) 1 (.int .i64 r.ln)
                      have z0 := bl_block_cell hbs 0
                      have z1 := bl_block_cell hbs 1
                      refine bodyPost_ret (v := .tuple #[.slice none 0 0, .int .i64 0, .int .i64 0, .agg #[.int .i64 9, .int .i64 r.ln]]) (by simp [results, Try.results30, go_sem, z0, z1]) rfl ⟨?_, Or.inl ⟨i, HV.out.1, by rw [HV.out.2]⟩⟩
                      first
                        | exact ((HK.out.2.setCell (p := ⟨w.heap.size, 0, none⟩) (Nat.le_refl _) _).setCell (p := ⟨w.heap.size, 1, none⟩) (Nat.le_refl _) _).drew
                        | exact ((HK.out.2.drew.setCell (p := ⟨w.heap.size, 0, none⟩) (Nat.le_refl _) _).setCell (p := ⟨w.heap.size, 1, none⟩) (Nat.le_refl _) _)
                  · have h2' : decide (65536 < a - bs) = false := decide_eq_false h2
                    have h2n : a - bs ≤ 65536 := by omega
                    clear h2
                    have hn' : Hid (badT rs i = false) := by show _ = _; rw [HBd.out, hb'.out]; first | (simp; done) | (simp; omega)
                    obtain ⟨D, hD⟩ : ∃ D : Nat, a - bs = (D : Int) := ⟨(a - bs).toNat, by omega⟩
                    have hDl : D ≤ 65536 := by omega
                    have HLn : Hid (lineT rs i = List.replicate D 32 ++ r.txt.data.toList) := by show _ = _; rw [HLine.out, hb'.out, hD]; rfl
                    clear HBase HBd HLine HBAD
                    go_wp2_with fail
                    go_loop [13, 15] (fun u v => ∃ (j : Nat) (o : ByteArray), j ≤ D ∧ u = .string o ∧ v = .int .i64 (bs + (j : Int)) ∧ Hid (o.data.toList = List.replicate j 32)) (fun _ v => (a - intOf v).toNat)
                    case atStart => exact ⟨0, ⟨#[]⟩, Nat.zero_le _, rfl, by simp, rfl⟩
                    case round =>
                      obtain ⟨j, o, hj, rfl, rfl, ho⟩ := hrel
                      have hoz : o.size = j := by rw [← bl_size, ho.out]; simp
                      by_cases hjd : j < D
                      · have hc : decide (bs + (j : Int) < a) = true := decide_eq_true (by omega)
                        have hadd : o.size + (⟨#[32]⟩ : ByteArray).size ≤ 9223372036854775807 := by show o.size + 1 ≤ _; omega
                        have HJ : Hid ((o ++ ⟨#[32]⟩).data.toList = List.replicate (j + 1) 32) := by show _ = _; rw [cat_data, ho.out, List.replicate_succ']
                        clear ho
                        go_wp2_with fail
                        go_round
                        case rel => exact ⟨j + 1, _, by omega, rfl, by go_num, HJ.out⟩
                        case measure => simp [intOf]; omega
                      · have hc : decide (bs + (j : Int) < a) = false := decide_eq_false (by omega)
                        have hadd : o.size + r.txt.size ≤ 9223372036854775807 := by omega
                        have HS : Hid ((o ++ r.txt).data.toList = lineT rs i) := by show _ = _; rw [cat_data, ho.out, HLn.out, show j = D by omega]
                        clear ho hjd
                        have hws := HK.out.2.size
                        go_wp2_with (at_builtin; refine wpList_append_str rfl _ _ rfl w.heap.size row i (linesT rs i) rfl HO.out (o ++ r.txt) rfl (by omega) hws ?_)
                        intro v' w2 hown hgrow
                        have hblt := bl_block_lt HK.out.1
                        have HK2 : Hid (Kept w w2 32 #[.int .i64 0, .int .i64 0]) := by
                          refine ⟨?_, (HK.out.2.alloc HK.out.2.size _).grown hgrow (by have := HK.out.2.size; simp; omega) (fun g hg => (HO.out.lt g hg).1)⟩
                          rw [hgrow.block _ (by simp; omega) (bl_row_ne HO.out HK.out.1 (by decide))]
                          exact (Below.heap_alloc wr _ _ hblt).trans HK.out.1
                        have HO2 : Hid (w2.ownsRow w.heap.size 9 1 v' (i + 1) (strVs (linesT rs (i + 1)))) := by
                          show World.ownsRow _ _ _ _ _ _ _
                          have e : strVs (linesT rs (i + 1)) = strVs (linesT rs i) ++ [.string (o ++ r.txt)] := by
                            rw [linesT_succ]
                            unfold strVs
                            first | rw [List.map_append, List.map_cons, List.map_nil, ← HS.out, bl_str] | rw [List.map_append, List.map_cons, List.map_nil, ← HS.out]
                          rw [e]
                          exact hown
                        clear hown hgrow
                        go_wp2_with fail
                        go_roundw
                        case rel => exact ⟨i + 1, v', by omega, by rw [hb'.out], rfl, by rw [he'.out]; try go_num, by go_num, HO2.out, hNB.out hn'.out, HK2.out⟩
                        case measure => simp [intOf]; omega
          · obtain rfl : k = i := by omega
            have hes := endT_le rs k
            obtain ⟨B, cc, rfl, hcc⟩ := bl_own_len HO.out
            have hst : ∀ W, (Instr.sliceAt 22 (.slice B k cc) none (some (.int .i64 (endT rs k : Int))) none).run Try.prog W = .ok (.slice B (endT rs k) cc) W := fun W => strs_to B k cc (endT rs k) (by omega) W
            have HNo : Hid (badAt rs (cntT rs col) = none) := by show _ = _; rw [HC.out]; exact badAt_none hnb.out
            have HST := Lib.hid (strs_own HO.out (linesT_len rs k) hes)
            rw [linesT_take rs hes] at HST
            obtain ⟨es, hes0⟩ : ∃ b, endT rs k = b := ⟨_, rfl⟩
            have HE := Lib.hid hes0
            rw [hes0] at hes hst HST ⊢
            clear hes0 hnb HO
            go_wp2_with (refine wpList_store_row rfl 32 _ _ rfl w.heap.size #[.int .i64 0, .int .i64 0] rfl rfl 32 _ HK.out.1 (by kernel_rfl) rfl (two_one _ _) ?_)
            have HK3 := HK.out.set #[.int .i64 0, .int .i64 0]
            have z0 := HK3.cell 0
            have z1 := HK3.cell 1
            refine bodyPost_ret (v := .tuple #[.slice B es cc, .int .i64 ((k : Int) - (es : Int)), .int .i64 (k : Nat), .agg #[.int .i64 0, .int .i64 0]]) (by simp [results, Try.results30, go_sem, z0, z1]) rfl ⟨HK3.2, Or.inr ⟨HNo.out, B, cc, by rw [HC.out, HE.out], ?_⟩⟩
            rw [HC.out, HE.out]
            exact ⟨fun i hi => by
              obtain ⟨b, off, h1, h2, h3⟩ := HST.out.at_ i hi
              have hne : b ≠ w.heap.size := by
                intro e
                have h4 := bl_block_cell HK.out.1 (off + i)
                rw [e, h4] at h3
                have : (#[Value.int .i64 0, Value.int .i64 0] : Array Value)[off + i]? ≠ some (.string (((linesT rs es).map fun l => (⟨l.toArray⟩ : ByteArray)).getD i ByteArray.empty)) := by
                  intro h5
                  rcases hoi : off + i with _ | _ | m
                  · rw [hoi] at h5; simp at h5
                  · rw [hoi] at h5; simp at h5
                  · rw [hoi] at h5; simp at h5
                exact this h3
              refine ⟨b, off, h1, by simpa [World.setRow] using h2, ?_⟩
              rw [← h3]
              unfold World.cell? World.setRow
              simp only [Array.getElem?_modify]
              rw [if_neg (fun e => hne e.symm)], HST.out.cap⟩
end Go.Proofs.Ytnggbhpnpomfjaa
