/- Walks: SortedFunc, All. Conditions: the queue lies as Que says. -/
import Derived.Test.YtiaonfmdjipekaaLsSrt
set_option linter.unusedVariables false
namespace Go.Proofs.Ytiaonfmdjipekaa.Ls
open Go.RowKit Go.Shelf Go.Lib
set_option maxRecDepth 100000 in
theorem collect_any (w : World) (Bs : Nat) (A : Option Addr) (c : Nat) (h : List Ent) (hn : h.length ≤ 1024) (hBs : w.cell? ⟨Bs, 0, none⟩ = some (.slice A h.length c)) (hp : PCells w w.heap.size A h) :
    Calls Try.prog 38 #[.func (.func 40) #[] #[.pointer (some ⟨Bs, 0, none⟩)]] w fun e w' => ∃ v, e = .returned v ∧ Hid (w'.ownsRow w.heap.size 62 1 v h.length (ptrs h)) ∧ Hid (Below w.heap.size w w') := by
  have AP := Lib.hid (appendseq_any w Bs A c h hn hBs hp)
  clear hBs hp hn
  go_enter Try.func38, Try.ntmps38
  go_wp2_with (go_at_call 44; (with_reducible refine AP.out.mono ?_); rintro e w1 ⟨v, rfl, h1, h2⟩)
  go_ret
  exact ⟨_, rfl, h1, h2⟩
set_option maxRecDepth 100000 in
theorem values_any (A : Option Addr) (n c : Nat) (w : World) : Calls Try.prog 30 #[.slice A n c] w fun e w' => e = .returned (.func (.func 40) #[] #[.pointer (some ⟨w.heap.size, 0, none⟩)]) ∧ w' = w.alloc (.cells #[.slice A n c] 56) := by
  go_enter Try.func30, Try.ntmps30
  go_wp2_with fail
  go_ret
  exact ⟨rfl, rfl⟩
/-- a row of entries' places -/
structure PtrsAt (w : World) (A : Option Addr) (n : Nat) (hs : List Ent) : Prop where
  len : hs.length = n
  get : ∀ j, j < n → ∃ g, A = some ⟨g, 0, none⟩ ∧ g < w.heap.size ∧ w.cell? ⟨g, j, none⟩ = some (ptrE (hs.getD j ent0))
def SortPost (w : World) (h : List Ent) (L : List Pr) (A : Option Addr) (n : Nat) (hs : List Ent) (w' : World) : Prop := hs.Perm h ∧ hs.map pr = L ∧ PtrsAt w' A n hs ∧ Below w.heap.size w w'
set_option maxRecDepth 100000 in
set_option maxHeartbeats 1600000 in
theorem sortedfunc_any (w : World) (Bs : Nat) (A : Option Addr) (c : Nat) (h : List Ent) (hn : h.length ≤ 1024) (hBs : w.cell? ⟨Bs, 0, none⟩ = some (.slice A h.length c)) (hp : PCells w w.heap.size A h)
    (hent : ∀ e ∈ h, ∃ k, EntAt w e k) (hnd : (h.map Ent.id).Nodup) (L : List Pr) (hpL : (h.map pr).Perm L) (hs : L.Pairwise ltP) :
    Calls Try.prog 29 #[.func (.func 40) #[] #[.pointer (some ⟨Bs, 0, none⟩)], .func (.func 31) #[] #[]] w fun e w' => ∃ A' c' hs, e = .returned (.slice A' h.length c') ∧ Hid (SortPost w h L A' h.length hs w') := by
  have CO : Hid (Calls Try.prog 38 #[.func (.func 40) #[] #[.pointer (some ⟨Bs, 0, none⟩)]] w fun e w1 => ∃ A' c', e = .returned (.slice A' h.length c') ∧ Hid (Calls Try.prog 39 #[.slice A' h.length c', .func (.func 31) #[] #[]] w1 fun e w' => e = .returned (.tuple #[]) ∧ ∃ hs, Hid (SortPost w h L A' h.length hs w'))) := by
    refine (collect_any w Bs A c h hn hBs hp).mono ?_
    rintro e w1 ⟨v, rfl, hr, hb⟩
    rcases hr.out.2 with ⟨rfl, h0⟩ | ⟨g, cap, cur, rfl, hge, hh, hnc, hcm, hcs, htk⟩
    · have hnil : h = [] := List.eq_nil_of_length_eq_zero h0
      subst hnil
      refine ⟨none, 0, rfl, (AnyF.slices_SortFunc_none (ρ := Try.laysSf6_ren) { Try.laysSf6 with } none 0 (.func (.func 31) #[] #[]) w1).mono ?_⟩
      rintro e w2 ⟨rfl, rfl⟩
      have hLnil : L = [] := List.nil_perm.1 (by simpa using hpL)
      exact ⟨rfl, [], List.Perm.refl _, by rw [hLnil]; rfl, ⟨rfl, fun j hj => absurd hj (Nat.not_lt_zero _)⟩, hb.out⟩
    · by_cases h0 : h.length = 0
      · have hnil : h = [] := List.eq_nil_of_length_eq_zero h0
        subst hnil
        refine ⟨some ⟨g, 0, none⟩, cap, rfl, (AnyF.slices_SortFunc_none (ρ := Try.laysSf6_ren) { Try.laysSf6 with } (some ⟨g, 0, none⟩) cap (.func (.func 31) #[] #[]) w1).mono ?_⟩
        rintro e w2 ⟨rfl, rfl⟩
        have hLnil : L = [] := List.nil_perm.1 (by simpa using hpL)
        exact ⟨rfl, [], List.Perm.refl _, by rw [hLnil]; rfl, ⟨rfl, fun j hj => absurd hj (Nat.not_lt_zero _)⟩, hb.out⟩
      · refine ⟨some ⟨g, 0, none⟩, cap, rfl, (sort_any w1 g cap h (by omega) hn (blt hh) (fun j hj => ⟨?_, bfree hh j⟩) (fun e he => ?_) hnd L hpL hs).mono ?_⟩
        · rw [bcell hh, ← Array.getElem?_toList]
          have e1 : (cur.toList.take (h.length * 1))[j]? = cur.toList[j]? := by rw [List.getElem?_take, if_pos (by omega)]
          rw [← e1, htk]
          simp [ptrs, ptrE, List.getD_eq_getElem?_getD, hj]
        · obtain ⟨k, hk⟩ := hent e he
          exact ⟨k, hk.below hb.out, by have := blt hk; omega⟩
        · rintro e w2 ⟨rfl, hs2, h1, h2, h3⟩
          exact ⟨rfl, hs2, h1.out.1, h1.out.2, ⟨h1.out.1.length_eq, fun j hj => ⟨g, rfl, Nat.lt_of_lt_of_le (blt hh) h3.out.size, h2.out j hj⟩⟩, hb.out.trans (h3.out.below hb.out.size (fun k hk => by omega))⟩
  clear hBs hp hent hnd hpL hs hn
  generalize h.length = n at CO ⊢
  go_enter Try.func29, Try.ntmps29
  go_wp2_with (first
    | (go_at_call 38; (with_reducible refine CO.out.mono ?_); rintro e w1 ⟨A', c', rfl, SF⟩)
    | (go_at_call 39; (with_reducible refine SF.out.mono ?_); rintro e w2 ⟨rfl, hs2, P2⟩))
  go_ret
  exact ⟨_, _, _, rfl, P2⟩
theorem Pile.pcells {w : World} {B : Nat → Prop} {A : Option Addr} {c : Nat} {h : List Ent} (p : Pile w B A c h) : PCells w w.heap.size A h := fun j hj => by
  obtain ⟨g, cur, rfl, _, hh, _, _, _, hcur⟩ := p.block (i := j) hj
  exact ⟨g, cur, _, rfl, blt hh, hh, hcur j hj⟩
theorem PCells.wider {W : World} {n m : Nat} {A : Option Addr} {h : List Ent} (p : PCells W n A h) (hm : n ≤ m) : PCells W m A h := fun j hj => by
  obtain ⟨g, cs, t, h1, h2, h3, h4⟩ := p j hj
  exact ⟨g, cs, t, h1, by omega, h3, h4⟩
theorem PtrsAt.below {w w' : World} {A : Option Addr} {n : Nat} {hs : List Ent} (p : PtrsAt w A n hs) (hb : Below w.heap.size w w') : PtrsAt w' A n hs := ⟨p.len, fun j hj => by
  obtain ⟨g, h1, h2, h3⟩ := p.get j hj
  exact ⟨g, h1, Nat.lt_of_lt_of_le h2 hb.size, (hb.cell (p := ⟨g, j, none⟩) h2).trans h3⟩⟩
theorem append_intb {w : World} {ops : Array Oper} {rest : List Oper} {o : Oper} {a : Act} {Q : Exit → Act → World → Prop} (hgd : o.guard = none) (s x : Operand) (ho : o.op = .call { callee := .builtin .append, args := #[s, x], argTypes := #[28, 28] })
    (base : Nat) (v : Value) (n : Nat) (L : List Int) (hs : a.eval s = v) (hown : w.ownsRow base 3 1 v n (intVs L)) (y : Int) (hx : a.eval x = .slice (some ⟨w.heap.size, 0, none⟩) 1 1) (hn : n ≤ 2000000) (hb : base ≤ w.heap.size)
    (h : ∀ v' w', w'.ownsRow base 3 1 v' (n + 1) (intVs L ++ [.int .i64 y]) → (w.alloc (.cells #[.int .i64 y] 3)).grownBy w' v.ownBlock → wpList Try.prog ops Q rest (a.put o.dst v') w') : wpList Try.prog ops Q (o :: rest) a (w.alloc (.cells #[.int .i64 y] 3)) := by
  obtain ⟨i0, hi, hz0, hz1, hz2⟩ := info_parts infoI
  refine wpList_append_own _ hgd s x 28 ho base 3 i0 (.int .i64 0) 1 8 Try.underlying28 hi hz0 hz1 hz2 rfl (by decide) v n (intVs L) hs (ownB hown ((Below.refl _ _).alloc (Nat.le_refl _) _)) ⟨w.heap.size, 0, none⟩ 1 1 [.int .i64 y] hx rfl ?_ ?_ (by unfold maxLen; omega) (by omega) (by simp; omega) (fun v' w' h1 h2 _ => h v' w' h1 h2)
  · intro j u hj
    rcases j with _ | j
    · simp at hj; subst hj
      simp [Addr.add]
    · simp at hj
  · intro u hu; simp at hu; subst hu; rfl
def takeIds (hs : List Ent) (k : Nat) : List Int := ids ((hs.take k).map pr)
def AllSt (w3 : World) (hs : List Ent) (k : Nat) (row : Value) (wr : World) : Prop := wr.ownsRow w3.heap.size 3 1 row k (intVs (takeIds hs k)) ∧ Below w3.heap.size w3 wr
set_option maxRecDepth 100000 in
set_option maxHeartbeats 3200000 in
theorem all_any (w : World) (B : Nat → Prop) (q : Nat) (L : List Pr) (N : Nat) (Q : Que w B q L N) :
    Calls Try.prog 18 #[.pointer (some ⟨q, 0, none⟩)] w fun e w' => ∃ v, e = .returned v ∧ Hid (RowI w' v (ids L)) ∧ Hid (∀ g, v.ownBlock = some g → w.heap.size ≤ g) ∧ Hid (Below w.heap.size w w') := by
  obtain ⟨h, A, c, D, n, dm, f, Q⟩ := Q
  have c0 := Q.qp.c0
  have OK := Lib.hid (ok_any q D w (bcell Q.qp.box 1))
  have hfew := Q.few
  have SF : Hid (∀ w1, w1 = w.alloc (.cells #[.slice A h.length c] 56) → Calls Try.prog 29 #[.func (.func 40) #[] #[.pointer (some ⟨w.heap.size, 0, none⟩)], .func (.func 31) #[] #[]] w1 fun e w' => ∃ A' c' hs, e = .returned (.slice A' h.length c') ∧ Hid (SortPost w1 h L A' h.length hs w')) := fun w1 hw1 => by
    have hb : Below w.heap.size w w1 := by rw [hw1]; exact (Below.refl _ w).alloc (Nat.le_refl _) _
    have hsz : w1.heap.size = w.heap.size + 1 := by rw [hw1]; simp
    refine sortedfunc_any w1 w.heap.size A c h hfew ?_ ((Q.qp.pile.pcells.kept (KpC.of_below hb)).wider (by omega)) (fun e he => ?_) Q.st.nodup L Q.st.perm Q.st.sorted
    · rw [hw1, bcell (heap_new w _ _)]; rfl
    · obtain ⟨i, hi, rfl⟩ := List.getElem_of_mem he
      have := (Q.qp.pile.ents i hi).1
      rw [List.getD_eq_getElem?_getD, List.getElem?_eq_getElem hi] at this
      exact ⟨_, this.below hb⟩
  have VA := Lib.hid (values_any A h.length c w)
  have HE : Hid (∀ e ∈ h, ∃ k, EntAt w e k) := fun e he => by
    obtain ⟨i, hi, rfl⟩ := List.getElem_of_mem he
    have := (Q.qp.pile.ents i hi).1
    rw [List.getD_eq_getElem?_getD, List.getElem?_eq_getElem hi] at this
    exact ⟨_, this⟩
  clear Q
  obtain ⟨m, hm⟩ : ∃ m, m = h.length := ⟨_, rfl⟩
  rw [← hm] at c0 hfew SF VA
  have HM := Lib.hid hm
  clear hm
  go_enter Try.func18, Try.ntmps18
  go_wp2_with (first
    | (go_at_call 25; (with_reducible refine OK.out.mono ?_); rintro e w1 ⟨rfl, rfl⟩)
    | (go_at_call 30; (with_reducible refine VA.out.mono ?_); rintro e w2 ⟨rfl, hw2⟩; have HW2 := Lib.hid hw2; clear hw2)
    | (go_at_call 29; (with_reducible refine (SF.out _ HW2.out).mono ?_); rintro e w3 ⟨A', c', hs, rfl, P3⟩))
  have B23 : Hid (Below w.heap.size w w3) := by
    have hb : Below w.heap.size w w2 := by rw [HW2.out]; exact (Below.refl _ w).alloc (Nat.le_refl _) _
    exact hb.trans (P3.out.2.2.2.mono hb.size)
  have S0 : Hid (AllSt w3 hs 0 (.slice none 0 0) w3) := ⟨World.ownsRow_nil _ _ _ _, Below.refl _ _⟩
  clear SF VA HW2
  go_loopw [3, 15] (fun u v wr => ∃ (k : Nat) (row : Value), k ≤ m ∧ row = u ∧ v = .int .i64 (k : Nat) ∧ Hid (AllSt w3 hs k row wr)) (fun _ v _ => m - (intOf v).toNat)
  case atStart => exact ⟨0, _, Nat.zero_le _, rfl, rfl, S0⟩
  case round =>
    clear S0
    obtain ⟨k, row, hk, rfl, rfl, HS⟩ := hrel
    by_cases hlt : k < m
    · obtain ⟨g, hA, hg, hcell⟩ := (P3.out.2.2.1.below HS.out.2).get k hlt
      have hmem : hs.getD k ent0 ∈ h := P3.out.1.mem_iff.1 (getD_mem' (by rw [P3.out.2.2.1.len]; exact hlt))
      obtain ⟨ke, hke⟩ := HE.out _ hmem
      have hke2 := (hke.below B23.out).below HS.out.2
      have hk0 := bcell hke2 0
      have HO := Lib.hid HS.out.1
      have HW := Lib.hid HS.out.2.size
      have HT : Hid (takeIds hs (k + 1) = takeIds hs k ++ [(hs.getD k ent0).id]) := by
        have hl : k < hs.length := by rw [P3.out.2.2.1.len]; exact hlt
        show _ = _
        unfold takeIds
        rw [List.take_add_one, List.getElem?_eq_getElem hl, List.getD_eq_getElem?_getD, List.getElem?_eq_getElem hl, List.map_append]
        unfold ids
        rw [List.map_append]
        rfl
      have HB := Lib.hid HS.out.2
      subst hA
      clear HS hke hke2 hmem
      unfold ptrE at hcell
      generalize hs.getD k ent0 = a at hcell hk0 HT
      obtain ⟨ab, ai, at_⟩ := a
      simp only at hcell hk0 HT
      have hkI : (k : Int) < (m : Int) := by omega
      have hk2 : k ≤ 2000000 := by omega
      go_wp2_with (at_builtin; refine append_intb rfl _ _ rfl w3.heap.size row k (takeIds hs k) rfl HO.out ai rfl hk2 HW.out ?_)
      intro v' w4 hown hgrow
      have HS2 : Hid (AllSt w3 hs (k + 1) v' w4) := ⟨by rw [HT.out, show intVs (takeIds hs k ++ [ai]) = intVs (takeIds hs k) ++ [.int .i64 ai] by simp [intVs]]; exact hown, (HB.out.alloc HW.out _).grown hgrow (by have := HW.out; simp; omega) (fun g' hg' => own_ge HO.out g' hg')⟩
      clear hown hgrow HO
      go_wp2_with fail
      go_roundw
      case rel => exact ⟨k + 1, v', by omega, rfl, by go_num, HS2.out⟩
      case measure => simp [intOf]; omega
    · obtain rfl : k = m := by omega
      have HF : Hid (RowI wr row (ids L) ∧ (∀ g, row.ownBlock = some g → w.heap.size ≤ g) ∧ Below w.heap.size w wr) := by
        have h1 := HS.out.1
        have h2 := P3.out
        have e1 : takeIds hs k = ids L := by
          unfold takeIds
          rw [← h2.2.2.1.len, List.take_length, h2.2.1]
        have e2 : (ids L).length = k := by rw [← h2.2.1]; simp [ids, h2.2.2.1.len]
        rw [e1] at h1
        refine ⟨?_, fun g hg => Nat.le_trans B23.out.size (own_ge h1 g hg), B23.out.trans (HS.out.2.mono B23.out.size)⟩
        unfold RowI
        rw [e2]
        exact own_base h1 (Nat.zero_le _)
      clear HS
      go_wp2_with fail
      go_ret
      exact ⟨_, rfl, HF.out⟩
end Go.Proofs.Ytiaonfmdjipekaa.Ls
