/- Walks: Drop, Due. Conditions: the queue lies as Que says. -/
import Derived.Test.YtiaonfmdjipekaaLsPut
set_option linter.unusedVariables false
namespace Go.Proofs.Ytiaonfmdjipekaa.Ls
open Go.RowKit Go.Maps
set_option maxRecDepth 100000 in
set_option maxHeartbeats 3200000 in
theorem drop_found (w : World) (B : Nat → Prop) (q : Nat) (L : List Pr) (N : Nat) (h : List Ent) (A : Option Addr) (c D n : Nat) (dm : DN) (f : Int → Int) (Q : QueIn w B q L N h A c D n dm f) (x : Int) (hx : wf64 x) (i : Nat) (hi : i < h.length) (hid : (h.getD i ent0).id = x)
    (hl : (Instr.lookup 57 (.map (some D)) (.int .i64 x) false).run Try.prog w = .ok (.pointer (some ⟨(h.getD i ent0).blk, 0, none⟩)) w) :
    Calls Try.prog 14 #[.pointer (some ⟨q, 0, none⟩), .int .i64 x] w fun e w' => e = .returned (.int .i64 0) ∧ Hid (Que w' B q (remP x L) N) ∧ Hid (Keep B w w') := by
  obtain ⟨m, hm⟩ : ∃ m, h.length = m + 1 := ⟨h.length - 1, by omega⟩
  have hfew : h.length ≤ 1024 := Q.few
  have k2 := bcell (Q.qp.pile.ents i hi).1 2
  have c1 := bcell Q.qp.box 1
  have OK := Lib.hid (ok_any q D w c1)
  have RM : Hid (∀ V, Below w.heap.size w V → Calls Try.prog 26 #[.iface 66 (.pointer (some ⟨q, 0, none⟩)), .int .i64 (i : Nat)] V fun e' w' => (∃ v, e' = .returned v) ∧ Hid (QP w' B q A c ((remL h i m).take m) D) ∧ Hid (Turn (Own B D) w w') ∧ w'.cell? ⟨q, 1, none⟩ = some (.map (some D))) :=
    fun V hV => (hremove_any V B q A c h D (Q.qp.below hV) i m hm (by omega) (by omega)).mono fun e' w' ⟨h1, h2, h3⟩ => ⟨h1, h2, (Turn.of_below hV).trans h3.out, bcell h2.out.box 1⟩
  have RM2 := Lib.hid (RM.out w.drew (Below.refl _ _).drew)
  have HQ := Lib.hid Q
  have FIN : Hid (∀ w5 w', QP w5 B q A c ((remL h i m).take m) D → Turn (Own B D) w w5 → w'.ownsMap Try.prog 3 RP D n (dm.del (.int .i64 x)) → w5.grownBy w' (some D) → Que w' B q (remP x L) N ∧ Keep B w w') := fun w5 w' hP hT hO hG => by
    have sd := Q.st.drop (n := m) hm (by omega) hid
    have hmap : ∃ es ck, w'.heap[D]? = some (.map es ck) := by
      obtain ⟨es, ck, hb, _⟩ := hO
      exact ⟨es, ck, hb⟩
    have b1 : Keep B w w5 := hT.mono fun k _ e => e.1
    refine ⟨⟨_, A, c, D, n, _, fun y => if y = x then -1 else f y, hP.mapped hG hmap, Q.base, Q.n_le, hO, fun y hy => ?_, sd.2 f _ Q.known (fun y hy => if_neg hy) (if_pos rfl), sd.1, ?_⟩, b1.trans (map_turned hG Q.base)⟩
    · by_cases e : y = x
      · rw [e, Maps.atKey_del_same]
        simp [nilD]
      · rw [Maps.atKey_del_other (by intro e2; simp at e2; exact e e2), Q.says y hy]
        simp [e]
    · rw [List.length_take, remL_len]
      omega
  have OWN : Hid (∀ w5, Turn (Own B D) w w5 → w5.ownsMap Try.prog 3 RP D n dm) := fun w5 hT => ownsMap_block Q.own (hT.block D Q.qp.mapLt fun e => e.2 rfl)
  have HWX := Lib.hid hx
  clear Q hx hid hm hi HQ RM
  generalize (remL h i m).take m = R at RM2 FIN
  generalize (h.getD i ent0).blk = ab at hl k2
  go_enter Try.func14, Try.ntmps14
  go_wp2_with (go_at_call 25; (with_reducible refine OK.out.mono ?_); rintro e w1 ⟨rfl, rfl⟩)
  go_still_tail 8, (by kernel_rfl)
  change wpList _ _ _ _ _ w.drew
  go_wp2_with (first
    | (go_at_call 26; (with_reducible refine RM2.out.mono ?_); rintro e w5 ⟨⟨v, rfl⟩, P5, T5, d5⟩)
    | (at_delete; refine wpList_delete_own _ rfl _ _ 57 3 rfl 62 keyI Try.underlying57 RP D n dm rfl (OWN.out _ T5.out) _ (.int .i64 x) rfl (keyOfI HWX.out) ?_))
  intro w6 hO6 hT6
  have FF := Lib.hid (FIN.out _ _ P5.out T5.out hO6 hT6.grown)
  clear hO6 hT6
  go_wp2_with fail
  go_ret
  exact ⟨rfl, FF.out.1, FF.out.2⟩
set_option maxRecDepth 100000 in
set_option maxHeartbeats 1600000 in
theorem drop_any (w : World) (B : Nat → Prop) (q : Nat) (L : List Pr) (N : Nat) (Q : Que w B q L N) (x : Int) (hx : wf64 x) :
    Calls Try.prog 14 #[.pointer (some ⟨q, 0, none⟩), .int .i64 x] w fun e w' => e = .returned (.int .i64 (dropC L x)) ∧ Hid (Que w' B q (remP x L) N) ∧ Hid (Keep B w w') := by
  have QQ := Lib.hid Q
  obtain ⟨h, A, c, D, n, dm, f, Q⟩ := Q
  have c1 := bcell Q.qp.box 1
  have OK := Lib.hid (ok_any q D w c1)
  rcases Q.look hx with ⟨hm, hl⟩ | ⟨i, hi, hid, hm, hl⟩
  · have HV : Hid (dropC L x = 6 ∧ remP x L = L) := by unfold dropC; rw [if_neg hm]; exact ⟨rfl, remP_none hm⟩
    rw [HV.out.1, HV.out.2]
    clear Q HV hm
    go_enter Try.func14, Try.ntmps14
    go_wp2_with (go_at_call 25; (with_reducible refine OK.out.mono ?_); rintro e w1 ⟨rfl, rfl⟩)
    go_ret
    exact ⟨rfl, QQ.out, Turn.refl _ _⟩
  · have HV : Hid (dropC L x = 0) := by unfold dropC; rw [if_pos hm]; rfl
    rw [HV.out]
    exact drop_found w B q L N h A c D n dm f Q x hx i hi hid hl
end Go.Proofs.Ytiaonfmdjipekaa.Ls
