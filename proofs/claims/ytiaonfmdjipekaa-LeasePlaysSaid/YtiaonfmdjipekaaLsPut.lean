/- Walk: Put. Conditions: the queue lies as Que says. -/
import Derived.Test.YtiaonfmdjipekaaLsQue
import Derived.StillTailTactics
set_option linter.unusedVariables false
namespace Go.Proofs.Ytiaonfmdjipekaa.Ls
open Go.RowKit Go.Maps
theorem QP.setTil {w : World} {B : Nat → Prop} {q : Nat} {A : Option Addr} {c : Nat} {h : List Ent} {D : Nat} (P : QP w B q A c h D) {i : Nat} (hi : i < h.length) (x t : Int) (hx : (h.getD i ent0).id = x) :
    QP (w.setCell ⟨(h.getD i ent0).blk, 1, none⟩ (.int .i64 t)) B q A c (h.set i ⟨(h.getD i ent0).blk, x, t⟩) D ∧ Turn (Own B D) w (w.setCell ⟨(h.getD i ent0).blk, 1, none⟩ (.int .i64 t)) := by
  have hl : (h.set i ⟨(h.getD i ent0).blk, x, t⟩).length = h.length := List.length_set
  have ha := (P.pile.ents i hi).1
  have hblk : (h.set i ⟨(h.getD i ent0).blk, x, t⟩).map Ent.blk = h.map Ent.blk := by
    rw [List.map_set]
    conv => rhs; rw [← List.set_getElem_self («as» := h.map Ent.blk) (i := i) (by simpa using hi)]
    congr 1
    simp [List.getD_eq_getElem?_getD, hi]
  have hqn : q ≠ (h.getD i ent0).blk := fun e => by
    have h1 := P.box
    unfold EntAt at ha
    rw [e, ha] at h1
    simp at h1
  refine ⟨⟨?_, ⟨?_, P.pile.out, fun k hk => ?_, ?_⟩, P.base, fun k hk => by simpa using P.old k hk, ?_⟩, (Turn.refl _ w).set (P.pile.own P.mapD _ (PB.ent hi)) 1 _⟩
  · rw [set_off hqn, hl]
    exact P.box
  · rw [hl]
    obtain ⟨g, cur, rfl, hgB, hh, hc, hsz, htk, hcur⟩ := P.pile.block hi
    have hp : ptrs (h.set i ⟨(h.getD i ent0).blk, x, t⟩) = ptrs h := by
      have e : ∀ l : List Ent, ptrs l = (l.map Ent.blk).map fun b => .pointer (some ⟨b, 0, none⟩) := fun l => by simp [ptrs, Function.comp_def]
      rw [e, e, hblk]
    rw [hp]
    refine ⟨P.pile.row.1, ?_⟩
    rcases P.pile.row.2 with h0 | ⟨g', cap, cur', hv, hge, hh', r⟩
    · exact Or.inl h0
    · refine Or.inr ⟨g', cap, cur', hv, hge, ?_, r⟩
      rw [set_off (P.pile.ne_row hh' hi).symm]
      exact hh'
  · rw [hl] at hk
    rw [getD_set h i _ hi]
    by_cases e : k = i
    · subst e
      rw [if_pos rfl]
      refine ⟨?_, (P.pile.ents k hi).2⟩
      unfold EntAt at ha ⊢
      simp only
      rw [set_at ha, hx]
      rfl
    · rw [if_neg e]
      exact ⟨(P.pile.ents k hk).1.off (P.pile.ne hk hi e), (P.pile.ents k hk).2⟩
  · rw [hblk]; exact P.pile.apart
  · obtain ⟨es, ck, m⟩ := P.mapD
    exact ⟨es, ck, by rw [set_off fun e => (P.pile.own P.mapD _ (PB.ent hi)).2 e.symm]; exact m⟩
/-- the queue behind a turn of its pile -/
theorem QueIn.turned {w w' : World} {B : Nat → Prop} {q : Nat} {L L' : List Pr} {N : Nat} {h h' : List Ent} {A A' : Option Addr} {c c' D n : Nat} {dm : DN} {f : Int → Int} (Q : QueIn w B q L N h A c D n dm f) (P : QP w' B q A' c' h' D) (T : Turn (Own B D) w w') (S : St h' L') (K : Known h' f) (hf : h'.length ≤ 1024) : Que w' B q L' N ∧ Keep B w w' :=
  ⟨⟨h', A', c', D, n, dm, f, P, Q.base, Q.n_le, ownsMap_block Q.own (T.block D Q.qp.mapLt fun e => e.2 rfl), Q.says, K, S, hf⟩, T.mono fun k _ e => e.1⟩
set_option maxRecDepth 100000 in
set_option maxHeartbeats 3200000 in
theorem put_found (w : World) (B : Nat → Prop) (q : Nat) (L : List Pr) (N : Nat) (h : List Ent) (A : Option Addr) (c D n : Nat) (dm : DN) (f : Int → Int) (Q : QueIn w B q L N h A c D n dm f) (x t : Int) (ht : wf64 t) (i : Nat) (hi : i < h.length) (hid : (h.getD i ent0).id = x)
    (hl : (Instr.lookup 57 (.map (some D)) (.int .i64 x) false).run Try.prog w = .ok (.pointer (some ⟨(h.getD i ent0).blk, 0, none⟩)) w) :
    Calls Try.prog 17 #[.pointer (some ⟨q, 0, none⟩), .int .i64 x, .int .i64 t] w fun e w' => e = .returned (.int .i64 0) ∧ Hid (Que w' B q (insP (x, t) (remP x L)) N) ∧ Hid (Keep B w w') := by
  have ST := Q.qp.setTil hi x t hid
  have QQ := Lib.hid Q
  have hx1 : 1 ≤ x := by have := (Q.st.wf _ (getD_mem' hi)).2; rw [hid] at this; exact this.1
  have hfew : h.length ≤ 1024 := Q.few
  have ha := (Q.qp.pile.ents i hi).1
  have k1 := bcell ha 1
  have fk := bfree ha 1
  have c1 := bcell Q.qp.box 1
  have OK := Lib.hid (ok_any q D w c1)
  obtain ⟨w1, hw1⟩ : ∃ w1, w1 = w.setCell ⟨(h.getD i ent0).blk, 1, none⟩ (.int .i64 t) := ⟨_, rfl⟩
  rw [← hw1] at ST
  have hlen : (h.set i ⟨(h.getD i ent0).blk, x, t⟩).length = h.length := List.length_set
  have ha1 := (ST.1.pile.ents i (by rw [hlen]; exact hi)).1
  rw [getD_set h i _ hi, if_pos rfl] at ha1
  have k2 := bcell ha1 2
  simp only at k2
  have FX : Hid (∀ V, Below w1.heap.size w1 V → Calls Try.prog 27 #[.iface 66 (.pointer (some ⟨q, 0, none⟩)), .int .i64 (i : Nat)] V fun e' w' => e' = .returned (.tuple #[]) ∧ Hid (QP w' B q A c (fixL (h.set i ⟨(h.getD i ent0).blk, x, t⟩) i h.length) D) ∧ Hid (Turn (Own B D) w1 w')) :=
    fun V hV => (hfix_any V B q A c _ D (ST.1.below hV) i h.length hlen hi (by omega)).mono fun e' w' ⟨h1, h2, h3⟩ => ⟨h1, h2, (Turn.of_below hV).trans h3.out⟩
  have FIN : Hid (∀ w', QP w' B q A c (fixL (h.set i ⟨(h.getD i ent0).blk, x, t⟩) i h.length) D → Turn (Own B D) w1 w' → Que w' B q (insP (x, t) (remP x L)) N ∧ Keep B w w') :=
    fun w' hP hT => Q.turned hP (ST.2.trans hT) (Q.st.turn hi hid ht).1 ((Q.st.turn hi hid ht).2 f Q.known) (by rw [fixL_len, hlen]; exact hfew)
  have hq1 : w1.cell? ⟨q, 0, none⟩ = some (.slice A h.length c) := by have := ST.1.c0; rw [hlen] at this; exact this
  clear Q ST ha ha1 hlen QQ hid
  generalize fixL (h.set i ⟨(h.getD i ent0).blk, x, t⟩) i h.length = R at FX FIN
  generalize (h.getD i ent0).blk = ab at hl k1 fk hw1 k2
  have hw2 := hw1.symm
  clear hw1
  go_enter Try.func17, Try.ntmps17
  go_wp2_with (go_at_call 25; (with_reducible refine OK.out.mono ?_); rintro e w1 ⟨rfl, rfl⟩)
  go_still_tail 8, (by kernel_rfl)
  change wpList _ _ _ _ _ w1.drew
  have FX2 := Lib.hid (FX.out w1.drew (Below.refl _ _).drew)
  clear FX
  go_wp2_with (go_at_call 27; (with_reducible refine FX2.out.mono ?_); rintro e w5 ⟨rfl, P5, T5⟩)
  go_ret
  exact ⟨rfl, (FIN.out _ P5.out T5.out).1, (FIN.out _ P5.out T5.out).2⟩
theorem map_turned {w w' : World} {D : Nat} (hg : w.grownBy w' (some D)) {B : Nat → Prop} (hD : ¬ B D) : Keep B w w' := ⟨hg.os, hg.tape, hg.output, hg.size, fun k hk hn => hg.block k hk fun e => hn (by simp at e; rw [e]; exact hD)⟩
/-- the map is written: the rest lies as it lay -/
theorem QP.mapped {w w' : World} {B : Nat → Prop} {q : Nat} {A : Option Addr} {c : Nat} {h : List Ent} {D : Nat} (P : QP w B q A c h D) (hg : w.grownBy w' (some D)) (hm : ∃ es ck, w'.heap[D]? = some (.map es ck)) : QP w' B q A c h D := by
  have hb : ∀ {k : Nat} {o : Obj}, w.heap[k]? = some o → k ≠ D → w'.heap[k]? = some o := fun {k o} h1 h2 => (hg.block k (blt h1) fun e => h2 (by simpa using e)).trans h1
  refine ⟨hb P.box P.own_q.2, ⟨⟨P.pile.row.1, ?_⟩, P.pile.out, fun i hi => ⟨?_, (P.pile.ents i hi).2⟩, P.pile.apart⟩, P.base, fun k hk => Nat.lt_of_lt_of_le (P.old k hk) hg.size, hm⟩
  · rcases P.pile.row.2 with h0 | ⟨g, cap, cur, hv, hge, hh, r⟩
    · exact Or.inl h0
    · exact Or.inr ⟨g, cap, cur, hv, hge, hb hh (ne_map hh P.mapD), r⟩
  · exact hb (P.pile.ents i hi).1 (ne_map (P.pile.ents i hi).1 P.mapD)
set_option maxRecDepth 100000 in
set_option maxHeartbeats 3200000 in
theorem put_new (w : World) (B : Nat → Prop) (q : Nat) (L : List Pr) (N : Nat) (h : List Ent) (A : Option Addr) (c D n : Nat) (dm : DN) (f : Int → Int) (Q : QueIn w B q L N h A c D n dm f) (hN : N < 1000000000000) (x t : Int) (ht : wf64 t) (hx : wf64 x) (hx1 : 1 ≤ x) (hxm : x ∉ ids L) (hlen : L.length < 1024)
    (hl : (Instr.lookup 57 (.map (some D)) (.int .i64 x) false).run Try.prog w = .ok (.pointer none) w) :
    Calls Try.prog 17 #[.pointer (some ⟨q, 0, none⟩), .int .i64 x, .int .i64 t] w fun e w' => e = .returned (.int .i64 0) ∧ Hid (Que w' B q (insP (x, t) L) (N + 1)) ∧ Hid (Keep B w w') := by
  have hfew : h.length < 1024 := by rw [← Q.st.len]; exact hlen
  have c1 := bcell Q.qp.box 1
  have c0 := Q.qp.c0
  have OK := Lib.hid (ok_any q D w c1)
  have hBw : ¬ B w.heap.size := fun e => by have := Q.qp.old _ e; omega
  obtain ⟨w1, hw1⟩ : ∃ w1, w1 = w.alloc (.cells #[.int .i64 x, .int .i64 t, .int .i64 0] 64) := ⟨_, rfl⟩
  have B1 : Below w.heap.size w w1 := by rw [hw1]; exact (Below.refl _ _).alloc (Nat.le_refl _) _
  have hE : EntAt w1 ⟨w.heap.size, x, t⟩ 0 := by rw [hw1]; exact heap_new w _ _
  have Q1 := Q.below B1
  have hq1 : w1.cell? ⟨q, 0, none⟩ = some (.slice A h.length c) := Q1.qp.c0
  have hq2 : w1.cell? ⟨q, 1, none⟩ = some (.map (some D)) := bcell Q1.qp.box 1
  have HOwn := Lib.hid Q1.own
  have HQ := Lib.hid Q
  have HQ1 := Lib.hid Q1
  have HE := Lib.hid hE
  have HB1 := Lib.hid B1
  have hn9 : n < maxLen := by have := Q.n_le; unfold maxLen; omega
  have hnz : ((h.length : Int) == 1024) = false := by simp; omega
  have HXM := Lib.hid hxm
  have HWX := Lib.hid hx
  have HWT := Lib.hid ht
  have hne : (x < 1) = False := by simp; omega
  clear Q B1 hE Q1 hlen hxm hx ht
  have hw2 := hw1.symm
  clear hw1
  generalize hm : h.length = m at c0 hq1 hfew hnz
  have HM := Lib.hid hm
  clear hm
  generalize hsz : w.heap.size = sz at hBw HE HB1
  go_enter Try.func17, Try.ntmps17
  go_wp2_with (first
    | (go_at_call 25; (with_reducible refine OK.out.mono ?_); rintro e w1 ⟨rfl, rfl⟩)
    | (at_mapUpdate; refine wpList_mapUpdate_own _ rfl _ _ _ 57 rfl 3 62 keyI Try.underlying57 RP D n dm rfl HOwn.out hn9 _ _ (.int .i64 x) rfl rfl (keyOfI HWX.out) (.lit (.int .i64 (sz : Int))) [] rfl ?_))
  intro w3 hown3 hgrow3
  have HO3 := Lib.hid hown3
  have HG3 := Lib.hid hgrow3
  clear hown3 hgrow3
  have hmap3 : ∃ es ck, w3.heap[D]? = some (.map es ck) := by
    obtain ⟨es, ck, hb, _⟩ := HO3.out
    exact ⟨es, ck, hb⟩
  have P3 := Lib.hid (HQ1.out.qp.mapped HG3.out hmap3)
  have hDsz : D ≠ sz := by have := HQ.out.qp.mapLt; omega
  have E3 : Hid (EntAt w3 ⟨sz, x, t⟩ 0) := (HG3.out.block sz (blt HE.out) fun e => hDsz (by simpa using e.symm)).trans HE.out
  have hnew : sz ∉ h.map Ent.blk := fun e => by
    obtain ⟨a, ha, hb⟩ := List.mem_map.1 e
    obtain ⟨i, hi, rfl⟩ := mem_getD ha
    have := blt (HQ.out.qp.pile.ents i hi).1
    omega
  have PU := Lib.hid (hpush_any w3 B q A c h D P3.out ⟨sz, x, t⟩ 0 E3.out hBw hnew (by have := HM.out; omega))
  have FIN : Hid (∀ w' A' c', QP w' B q A' c' (upL (h.length + 1) (h ++ [⟨sz, x, t⟩]) h.length) D → Turn (Own B D) w3 w' → Que w' B q (insP (x, t) L) (N + 1) ∧ Keep B w w') := fun w' A' c' hP hT => by
    have sa := HQ.out.st.add (b := sz) HXM.out ⟨hx1, HWX.out.2⟩ HWT.out
    have hDB := HQ.out.base
    have b3 : Keep B w1 w3 := map_turned HG3.out hDB
    have b4 : Keep B w3 w' := hT.mono fun k _ e => e.1
    have b1 : Keep B w w1 := Turn.of_below (by rw [hsz]; exact HB1.out)
    refine ⟨⟨_, A', c', D, n + 1, _, fun y => if y = x then (sz : Int) else f y, hP, hDB, by have := HQ.out.n_le; omega, ownsMap_block HO3.out (hT.block D P3.out.mapLt fun e => e.2 rfl), fun y hy => ?_, sa.2 f _ HQ.out.known (fun y hy => if_neg hy) (if_pos rfl), sa.1, ?_⟩, (b1.trans b3).trans b4⟩
    · by_cases e : y = x
      · rw [e]
        rw [Maps.atKey_put_same HOwn.out.isMap (keyI.key (keyOfI HWX.out))]
        simp
      · rw [Maps.atKey_put_other (by intro e2; simp at e2; exact e e2), HQ.out.says y hy]
        simp [e]
    · rw [upL_len]
      have := HM.out
      simp
      omega
  clear HQ HQ1 HOwn HE hmap3 E3 hnew HG3 HO3
  generalize upL (h.length + 1) (h ++ [⟨sz, x, t⟩]) h.length = R at PU FIN
  have hq3 := P3.out.c0
  clear HM hsz
  go_wp2_with (go_at_call 28; (with_reducible refine PU.out.mono ?_); rintro e w5 ⟨rfl, A5, c5, P5, T5⟩)
  go_ret
  exact ⟨rfl, (FIN.out _ _ _ P5.out T5.out).1, (FIN.out _ _ _ P5.out T5.out).2⟩
set_option maxRecDepth 100000 in
set_option maxHeartbeats 1600000 in
theorem put_any (w : World) (B : Nat → Prop) (q : Nat) (L : List Pr) (N : Nat) (Q : Que w B q L N) (hN : N < 1000000000000) (x t : Int) (hx : wf64 x) (ht : wf64 t) :
    Calls Try.prog 17 #[.pointer (some ⟨q, 0, none⟩), .int .i64 x, .int .i64 t] w fun e w' => e = .returned (.int .i64 (putC L x)) ∧ Hid (Que w' B q (putR L x t) (N + 1)) ∧ Hid (Keep B w w') := by
  have QQ := Lib.hid Q
  obtain ⟨h, A, c, D, n, dm, f, Q⟩ := Q
  have c1 := bcell Q.qp.box 1
  have OK := Lib.hid (ok_any q D w c1)
  by_cases h1 : x < 1
  · have HV : Hid (putC L x = 1 ∧ putR L x t = L) := by unfold putC putR; rw [if_pos h1, if_pos h1]; exact ⟨rfl, rfl⟩
    rw [HV.out.1, HV.out.2]
    clear Q HV
    go_enter Try.func17, Try.ntmps17
    go_wp2_with (go_at_call 25; (with_reducible refine OK.out.mono ?_); rintro e w1 ⟨rfl, rfl⟩)
    go_ret
    exact ⟨rfl, QQ.out.mono (Nat.le_succ _), Turn.refl _ _⟩
  · rcases Q.look hx with ⟨hm, hl⟩ | ⟨i, hi, hid, hm, hl⟩
    · by_cases hlen : L.length = 1024
      · have HV : Hid (putC L x = 5 ∧ putR L x t = L) := by unfold putC putR; rw [if_neg h1, if_neg h1, if_neg hm, if_neg hm, if_pos hlen, if_pos hlen]; exact ⟨rfl, rfl⟩
        have c0 := Q.qp.c0
        have hz : ((h.length : Int) == 1024) = true := by have := Q.st.len; simp; omega
        rw [HV.out.1, HV.out.2]
        clear Q HV hm hlen
        generalize h.length = m at c0 hz
        go_enter Try.func17, Try.ntmps17
        go_wp2_with (go_at_call 25; (with_reducible refine OK.out.mono ?_); rintro e w1 ⟨rfl, rfl⟩)
        go_ret
        exact ⟨rfl, QQ.out.mono (Nat.le_succ _), Turn.refl _ _⟩
      · have HV : Hid (putC L x = 0 ∧ putR L x t = insP (x, t) L) := by unfold putC putR; rw [if_neg h1, if_neg h1, if_neg hm, if_neg hm, if_neg hlen, if_neg hlen]; exact ⟨rfl, rfl⟩
        rw [HV.out.1, HV.out.2]
        exact put_new w B q L N h A c D n dm f Q hN x t ht hx (by omega) hm (by have := Q.few; have := Q.st.len; omega) hl
    · have HV : Hid (putC L x = 0 ∧ putR L x t = insP (x, t) (remP x L)) := by unfold putC putR; rw [if_neg h1, if_neg h1, if_pos hm, if_pos hm]; exact ⟨rfl, rfl⟩
      rw [HV.out.1, HV.out.2]
      exact (put_found w B q L N h A c D n dm f Q x t ht i hi hid hl).mono fun e w' ⟨e1, e2, e3⟩ => ⟨e1, e2.out.mono (Nat.le_succ _), e3⟩
end Go.Proofs.Ytiaonfmdjipekaa.Ls
