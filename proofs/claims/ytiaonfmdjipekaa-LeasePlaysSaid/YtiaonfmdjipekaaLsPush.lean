/- Walks: one is put behind a pile, the last one is taken. Conditions: as XLsPile. -/
import Derived.Test.YtiaonfmdjipekaaLsDown
import Derived.Test.YtiaonfmdjipekaaLsApp
set_option linter.unusedVariables false
namespace Go.Proofs.Ytiaonfmdjipekaa.Ls
open Go.RowKit
theorem infoPE : (Try.prog.info? 62).map (fun i => (i.zero, i.size, i.bytes)) = some (some (.pointer none), 1, 8) := by kernel_rfl
theorem Turn.grown {S : Nat → Prop} {a b c : World} {row : Option Nat} (h : Turn S a b) (hg : b.grownBy c row) (hr : ∀ k, row = some k → S k) : Turn S a c :=
  h.trans ⟨hg.os, hg.tape, hg.output, hg.size, fun k hk hn => hg.block k hk fun e => hn (hr k e.symm)⟩
theorem QP.own_q {w : World} {B : Nat → Prop} {q : Nat} {A : Option Addr} {c : Nat} {h : List Ent} {D : Nat} (P : QP w B q A c h D) : Own B D q := ⟨P.base, ne_map P.box P.mapD⟩
theorem QP.own_row {w : World} {B : Nat → Prop} {q : Nat} {A : Option Addr} {c : Nat} {h : List Ent} {D : Nat} (P : QP w B q A c h D) (k : Nat) (hk : (Value.slice A h.length c).ownBlock = some k) : Own B D k := by
  refine P.pile.own P.mapD k (Or.inl ?_)
  rcases P.pile.row.2 with ⟨h1, _⟩ | ⟨g, cap, cur, h1, _⟩
  · simp at h1
    rw [h1.1] at hk
    simp [Value.ownBlock] at hk
  · simp at h1
    rw [h1.1] at hk ⊢
    simp [Value.ownBlock] at hk
    rw [hk]
theorem getD_app {h : List Ent} {e : Ent} {i : Nat} (hi : i < (h ++ [e]).length) : (i < h.length ∧ (h ++ [e]).getD i ent0 = h.getD i ent0) ∨ (i = h.length ∧ (h ++ [e]).getD i ent0 = e) := by
  rw [List.length_append, List.length_singleton] at hi
  by_cases h1 : i < h.length
  · left
    refine ⟨h1, ?_⟩
    simp [List.getD_eq_getElem?_getD, List.getElem?_append_left h1]
  · right
    obtain rfl : i = h.length := by omega
    exact ⟨rfl, by simp [List.getD_eq_getElem?_getD]⟩
theorem ownB {w w' : World} {base size n : Nat} {e : TypeId} {v : Value} {xs : List Value} (h : w.ownsRow base e size v n xs) (hb : Below w.heap.size w w') : w'.ownsRow base e size v n xs := by
  refine ⟨h.1, ?_⟩
  rcases h.2 with h2 | ⟨b, cap, cur, hv, hge, hh, r⟩
  · exact Or.inl h2
  · exact Or.inr ⟨b, cap, cur, hv, hge, (hb.block b (blt hh)).trans hh, r⟩
set_option maxRecDepth 100000 in
set_option maxHeartbeats 3200000 in
theorem ppush_any (w : World) (B : Nat → Prop) (q : Nat) (A : Option Addr) (c : Nat) (h : List Ent) (D : Nat) (P : QP w B q A c h D) (e : Ent) (k : Int) (hE : EntAt w e k) (hBe : ¬ B e.blk) (hnew : e.blk ∉ h.map Ent.blk) (hL : h.length ≤ 4000) :
    Calls Try.prog 85 #[.pointer (some ⟨q, 0, none⟩), .iface 62 (.pointer (some ⟨e.blk, 0, none⟩))] w fun e' w' => e' = .returned (.tuple #[]) ∧ ∃ A' c', Hid (QP w' B q A' c' (h ++ [e]) D) ∧ Hid (Turn (Own B D) w w') := by
  have c0 := P.c0
  have f0 := bfree P.box 0
  have k2 : w.cell? ⟨e.blk, 2, none⟩ = some (.int .i64 k) := bcell hE 2
  have ta : ∀ (x : Nat) (W : World), (Instr.typeAssert (.iface 62 (.pointer (some ⟨x, 0, none⟩))) 20 62 true).run Try.prog W = .ok (.tuple #[.pointer (some ⟨x, 0, none⟩), .bool true]) W := fun x W => by kernel_rfl
  have fk := bfree hE 2
  have hqe : q ≠ e.blk := fun x => by
    have := P.box
    unfold EntAt at hE
    rw [x, hE] at this
    simp at this
  obtain ⟨i0, hi, hz0, hz1, hz2⟩ := info_parts infoPE
  obtain ⟨w1, hw1⟩ : ∃ w1, w1 = w.setCell ⟨e.blk, 2, none⟩ (.int .i64 (h.length : Nat)) := ⟨_, rfl⟩
  have oe : Own B D e.blk := ⟨hBe, ne_map hE P.mapD⟩
  have T1 : Turn (Own B D) w w1 := by rw [hw1]; exact (Turn.refl _ w).set oe 2 _
  have E1 : EntAt w1 e (h.length : Nat) := by rw [hw1]; exact hE.set _
  have hrow : ∀ g cur, w.heap[g]? = some (.cells cur 62 (0, 0)) → g ≠ e.blk := fun g cur hg x => by
    unfold EntAt at hE
    rw [x, hE] at hg
    simp at hg
  have R1 : w1.ownsRow 0 62 1 (.slice A h.length c) h.length (ptrs h) := by
    refine ⟨P.pile.row.1, ?_⟩
    rcases P.pile.row.2 with h2 | ⟨b, cap, cur, hv, hge, hh, r⟩
    · exact Or.inl h2
    · exact Or.inr ⟨b, cap, cur, hv, hge, by rw [hw1, set_off (hrow _ _ hh)]; exact hh, r⟩
  have S1 : w1.heap.size = w.heap.size := by rw [hw1]; simp
  have c1 : w1.cell? ⟨q, 0, none⟩ = some (.slice A h.length c) := by rw [hw1, World.cell?_setCell_other _ _ _ _ (by intro x; simp only [Addr.mk.injEq] at x; exact hqe x.1.symm)]; exact c0
  have f1 : w1.frozen? ⟨q, 0, none⟩ = false := by rw [hw1, World.frozen?_setCell]; exact f0
  have HE1 := Lib.hid E1
  have HT1 := Lib.hid T1
  have HR1 := Lib.hid R1
  have HS1 := Lib.hid S1
  have HP := Lib.hid P
  have HE := Lib.hid hE
  have hql : q < w1.heap.size := by rw [S1]; exact blt P.box
  have HW1 := Lib.hid hw1
  have HNew := Lib.hid hnew
  have HLn : Hid (h.length = h.length) := rfl
  have HO := Lib.hid P.own_row
  clear P hE E1 T1 R1 S1 hrow hnew
  generalize hn : h.length = n at c0 c1 hL hw1 HE1 HR1 HW1 HO
  have HN := Lib.hid hn
  clear hn HLn
  have hw2 : w.setCell ⟨e.blk, 2, none⟩ (.int .i64 (n : Nat)) = w1 := hw1.symm
  clear hw1
  go_enter Try.func85, Try.ntmps85
  go_wp2_with (at_builtin; refine wpList_append_ours _ rfl _ _ 56 rfl 62 i0 (.pointer none) 1 8 Try.underlying56 hi hz0 hz1 hz2 rfl (by decide) (.slice A n c) n (ptrs h) rfl ?c0 ⟨w1.heap.size, 0, none⟩ 1 1 [.pointer (some ⟨e.blk, 0, none⟩)] rfl rfl ?c1 ?c2 ?c3 ?c4 ?_)
  case c0 => exact ownB HR1.out ((Below.refl _ _).alloc (Nat.le_refl _) _)
  case c1 =>
    intro j u hu
    rcases j with _ | j
    · simp at hu; subst hu; simp [Addr.add]
    · simp at hu
  case c2 => intro u hu; simp at hu; subst hu; rfl
  case c3 => unfold maxLen; omega
  case c4 => omega
  intro v' w2 hown hgrow hwhere
  obtain ⟨g', cap', rfl, hg2⟩ : ∃ g' cap', v' = .slice (some ⟨g', 0, none⟩) (n + 1) cap' ∧ ∃ cur, w2.heap[g']? = some (.cells cur 62 (0, 0)) := by
    rcases hown.2 with ⟨_, h0⟩ | ⟨g', cap', cur, h1, _, h2, _⟩
    · omega
    · exact ⟨g', cap', h1, cur, h2⟩
  have B2 : ∀ x, x < w.heap.size → some x ≠ (Value.slice A n c).ownBlock → w2.heap[x]? = w1.heap[x]? := fun x hx hne => by
    have := HS1.out
    rw [hgrow.block x (by simp; omega) hne, Below.heap_alloc _ _ _ (by omega)]
  have hqn : some q ≠ (Value.slice A n c).ownBlock := by
    intro x
    rcases HR1.out.2 with ⟨h1, _⟩ | ⟨b, cap, cur, hv, hge, hh, r⟩
    · rw [h1] at x; simp [Value.ownBlock] at x
    · rw [hv] at x
      simp [Value.ownBlock] at x
      have hb := HP.out.box
      rw [← x, HW1.out, set_off hqe, hb] at hh
      simp at hh
  have qb : w2.heap[q]? = some (.cells #[.slice A n c, .map (some D)] 59 (0, 0)) := by
    rw [B2 q (blt HP.out.box) hqn, HW1.out, set_off hqe, HP.out.box, HN.out]
  have c2 := bcell qb 0
  have f2 := bfree qb 0
  have HB2 := Lib.hid B2
  have HQB := Lib.hid qb
  have HOwn := Lib.hid hown
  have HG := Lib.hid hgrow
  have HG2 := Lib.hid hg2
  have HWh : Hid (∀ g, g' = g → (Value.slice A n c).ownBlock = some g ∨ w.heap.size ≤ g) := fun g hg => by
    have := hwhere g (by rw [hg]; rfl)
    have h2 := HS1.out
    try simp only [World.size_alloc] at this
    exact this.imp id fun h => by omega
  clear B2 qb hown hgrow hqn hg2 hwhere
  go_wp2_with fail
  go_end0
  refine ⟨rfl, some ⟨g', 0, none⟩, cap', ?_, ?_⟩
  · have hne : ∀ x cs, w2.heap[x]? = some (.cells cs 64 (0, 0)) → x ≠ q := fun x cs hx he => by
      rw [he, HQB.out] at hx
      simp at hx
    have hgq : g' ≠ q := fun he => by
      obtain ⟨cur, hc⟩ := HG2.out
      rw [he, HQB.out] at hc
      simp at hc
    have hEnt : ∀ x ∈ h ++ [e], ∀ j, EntAt w1 x j → x.blk < w.heap.size → EntAt w2 x j := fun x hx j hxj hxl => by
      refine (HB2.out x.blk hxl ?_).trans hxj
      intro hn
      rcases HR1.out.2 with ⟨h1, _⟩ | ⟨b, cap, cur, hv, hge, hh, r⟩
      · rw [h1] at hn; simp [Value.ownBlock] at hn
      · rw [hv] at hn
        simp [Value.ownBlock] at hn
        unfold EntAt at hxj
        rw [hn, hh] at hxj
        simp at hxj
    have hszf : w.heap.size ≤ w2.heap.size := by have h1 := HG.out.size; have := HS1.out; (try simp only [World.size_alloc] at h1); omega
    refine ⟨?_, ⟨?_, fun g hg => ?_, fun i hi => ?_, ?_⟩, HP.out.base, fun k hk => by have := HP.out.old k hk; simp; omega, ?_⟩
    · rw [set_at HQB.out, List.length_append, HN.out]
      rfl
    · have hpe : ptrs (h ++ [e]) = ptrs h ++ [.pointer (some ⟨e.blk, 0, none⟩)] := by simp [ptrs]
      rw [List.length_append, HN.out, hpe]
      refine ⟨HOwn.out.1, ?_⟩
      rcases HOwn.out.2 with h0 | ⟨b, cap, cur, hv, hge, hh, r⟩
      · exact Or.inl h0
      · refine Or.inr ⟨b, cap, cur, hv, hge, ?_, r⟩
        have : g' = b := by simp at hv; exact hv.1
        rw [set_off (by omega)]
        exact hh
    · simp at hg
      rcases HWh.out g hg with h1 | h1
      · exact (HO.out g h1).1
      · exact fun hb => by have := HP.out.old g hb; omega
    · rcases getD_app hi with ⟨h1, h2⟩ | ⟨h1, h2⟩
      · rw [h2]
        have he := HP.out.pile.ents i h1
        have hbl : (h.getD i ent0).blk ≠ e.blk := fun x => HNew.out (x ▸ List.mem_map.2 ⟨_, getD_mem h1, rfl⟩)
        have e2 := hEnt _ (List.mem_append_left _ (getD_mem h1)) _ (by rw [HW1.out]; exact he.1.off hbl) (blt he.1)
        exact ⟨e2.off (hne _ _ e2), he.2⟩
      · rw [h2, h1, HN.out]
        have e2 := hEnt e (by simp) _ HE1.out (blt HE.out)
        exact ⟨e2.off (hne _ _ e2), hBe⟩
    · rw [List.map_append, List.nodup_append]
      refine ⟨HP.out.pile.apart, by simp, ?_⟩
      intro a ha b hb
      simp at hb
      subst hb
      intro x
      exact HNew.out (x ▸ ha)
    · obtain ⟨es, ck, m⟩ := HP.out.mapD
      refine ⟨es, ck, ?_⟩
      rw [set_off (fun x => (HP.out.own_q).2 x.symm), HB2.out D (blt m) (fun x => (HO.out D x.symm).2 rfl), HW1.out, set_off (fun x => oe.2 x.symm)]
      exact m
  · exact (((HT1.out.alloc _).grown HG.out HO.out).set HP.out.own_q 0 _)
end Go.Proofs.Ytiaonfmdjipekaa.Ls
