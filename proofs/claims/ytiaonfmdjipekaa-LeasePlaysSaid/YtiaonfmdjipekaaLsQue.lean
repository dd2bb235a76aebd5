/- Walks: a queue: New, ok, Len, Until, First. Conditions: the queue lies as Que says. -/
import Derived.Test.YtiaonfmdjipekaaLsState
import Derived.Maps.OwnSet
import Derived.Maps.OwnOps
import Derived.WalkSpells
set_option linter.unusedVariables false
namespace Go.Proofs.Ytiaonfmdjipekaa.Ls
open Go.RowKit Go.Maps
abbrev DN := DataW Nat
/-- how a pointer of the map reads: its block -/
def RP : Value → Option (DN × List MemPlace)
  | .pointer none => some (.lit (.int .i64 (-1)), [])
  | .pointer (some ⟨b, 0, none⟩) => some (.lit (.int .i64 (b : Int)), [])
  | _ => none
theorem RP_inv {v : Value} {z : Int} {ps : List MemPlace} (h : RP v = some (.lit (.int .i64 z), ps)) : (z = -1 ∧ v = .pointer none) ∨ ∃ b : Nat, z = b ∧ v = .pointer (some ⟨b, 0, none⟩) := by
  unfold RP at h
  split at h
  · simp at h
    exact Or.inl ⟨h.1.symm, rfl⟩
  · rename_i b
    simp at h
    exact Or.inr ⟨b, h.1.symm, rfl⟩
  · cases h
theorem keyI : Keyed Try.prog 3 := int_keyed Try.underlying3
theorem keyOfI {x : Int} (hx : -9223372036854775808 ≤ x ∧ x < 9223372036854775808) : keyOf Try.prog 3 (.int .i64 x) = some (.int .i64 x) := keyOf_int_mk Try.underlying3 (WalkArith.wf_i64 (by omega))
theorem zeroP (w : World) : (zeroValue 62).run Try.prog w = .ok (.pointer none) w := by kernel_rfl
def nilD : DN := .lit (.int .i64 (-1))
def wf64 (x : Int) : Prop := -9223372036854775808 ≤ x ∧ x < 9223372036854775808
/-- a queue that lies at q: it has L; its map was written N times at most -/
structure QueIn (w : World) (B : Nat → Prop) (q : Nat) (L : List Pr) (N : Nat) (h : List Ent) (A : Option Addr) (c D n : Nat) (dm : DN) (f : Int → Int) : Prop where
  qp : QP w B q A c h D
  base : ¬ B D
  n_le : n ≤ N
  own : w.ownsMap Try.prog 3 RP D n dm
  says : ∀ x, wf64 x → dm.atKey (.int .i64 x) nilD = .lit (.int .i64 (f x))
  known : Known h f
  st : St h L
  few : h.length ≤ 1024
def Que (w : World) (B : Nat → Prop) (q : Nat) (L : List Pr) (N : Nat) : Prop := ∃ h A c D n dm f, QueIn w B q L N h A c D n dm f
theorem ownsMap_block {w w' : World} {D n : Nat} {dm : DN} (h : w.ownsMap Try.prog 3 RP D n dm) (e : w'.heap[D]? = w.heap[D]?) : w'.ownsMap Try.prog 3 RP D n dm := by
  obtain ⟨es, ck, hb, r⟩ := h
  exact ⟨es, ck, e.trans hb, r⟩
theorem QueIn.below {w w' : World} {B : Nat → Prop} {q : Nat} {L : List Pr} {N : Nat} {h : List Ent} {A : Option Addr} {c D n : Nat} {dm : DN} {f : Int → Int} (Q : QueIn w B q L N h A c D n dm f) (hb : Below w.heap.size w w') : QueIn w' B q L N h A c D n dm f :=
  ⟨Q.qp.below hb, Q.base, Q.n_le, ownsMap_block Q.own (hb.block D Q.qp.mapLt), Q.says, Q.known, Q.st, Q.few⟩
theorem Que.below {w w' : World} {B : Nat → Prop} {q : Nat} {L : List Pr} {N : Nat} (Q : Que w B q L N) (hb : Below w.heap.size w w') : Que w' B q L N := by
  obtain ⟨h, A, c, D, n, dm, f, Q⟩ := Q
  exact ⟨h, A, c, D, n, dm, f, Q.below hb⟩
theorem Que.mono {w : World} {B : Nat → Prop} {q : Nat} {L : List Pr} {N M : Nat} (Q : Que w B q L N) (hN : N ≤ M) : Que w B q L M := by
  obtain ⟨h, A, c, D, n, dm, f, Q⟩ := Q
  exact ⟨h, A, c, D, n, dm, f, Q.qp, Q.base, Nat.le_trans Q.n_le hN, Q.own, Q.says, Q.known, Q.st, Q.few⟩
/-- what was there, and is foreign, is as it was -/
abbrev Keep (B : Nat → Prop) (w w' : World) : Prop := Turn (fun k => ¬ B k) w w'
theorem Que.old {w : World} {B : Nat → Prop} {q : Nat} {L : List Pr} {N : Nat} (Q : Que w B q L N) (k : Nat) (hk : B k) : k < w.heap.size := by
  obtain ⟨h, A, c, D, n, dm, f, Q⟩ := Q
  exact Q.qp.old k hk
/-- others' new blocks are foreign -/
theorem Que.foreign {w w' : World} {B B' : Nat → Prop} {q : Nat} {L : List Pr} {N : Nat} (Q : Que w B q L N) (hb : Below w.heap.size w w') (h1 : ∀ k, B' k → B k ∨ w.heap.size ≤ k) (h2 : ∀ k, B' k → k < w'.heap.size) : Que w' B' q L N := by
  obtain ⟨h, A, c, D, n, dm, f, Q⟩ := Q
  have nb : ∀ k, ¬ B k → k < w.heap.size → ¬ B' k := fun k h3 h4 h5 => (h1 k h5).elim h3 (by omega)
  have Q2 := Q.below hb
  refine ⟨h, A, c, D, n, dm, f, ⟨Q2.qp.box, ⟨Q2.qp.pile.row, fun g hg => nb g (Q.qp.pile.out g hg) ?_, fun i hi => ⟨(Q2.qp.pile.ents i hi).1, nb _ (Q.qp.pile.ents i hi).2 (blt (Q.qp.pile.ents i hi).1)⟩, Q2.qp.pile.apart⟩, nb q Q.qp.base (blt Q.qp.box), h2, Q2.qp.mapD⟩, nb D Q.base Q.qp.mapLt, Q.n_le, Q2.own, Q.says, Q.known, Q.st, Q.few⟩
  rcases Q.qp.pile.row.2 with ⟨h3, _⟩ | ⟨g', cap, cur, h3, _, h4, _⟩
  · rw [hg] at h3; simp at h3
  · rw [hg] at h3
    simp at h3
    rw [h3.1]
    exact blt h4
/-- what the map hands back -/
theorem QueIn.look {w : World} {B : Nat → Prop} {q : Nat} {L : List Pr} {N : Nat} {h : List Ent} {A : Option Addr} {c D n : Nat} {dm : DN} {f : Int → Int} (Q : QueIn w B q L N h A c D n dm f) {x : Int} (hx : wf64 x) :
    (x ∉ ids L ∧ (Instr.lookup 57 (.map (some D)) (.int .i64 x) false).run Try.prog w = .ok (.pointer none) w) ∨
    ∃ i, i < h.length ∧ (h.getD i ent0).id = x ∧ x ∈ ids L ∧ (Instr.lookup 57 (.map (some D)) (.int .i64 x) false).run Try.prog w = .ok (.pointer (some ⟨(h.getD i ent0).blk, 0, none⟩)) w := by
  obtain ⟨v, ps, hrun, hv⟩ := Q.own.lookup keyI Try.underlying57 (zeroP w) (zd := nilD) (zp := []) rfl (keyOfI hx)
  rw [Q.says x hx] at hv
  by_cases hm : x ∈ ids L
  · obtain ⟨i, hi, hid⟩ := Q.st.at hm
    have hf : f x = (h.getD i ent0).blk := hid ▸ Q.known.1 _ (getD_mem' hi)
    rcases RP_inv hv with ⟨e, _⟩ | ⟨b, e, hv2⟩
    · omega
    · right
      refine ⟨i, hi, hid, hm, ?_⟩
      rw [hrun, hv2]
      have : b = (h.getD i ent0).blk := by omega
      rw [this]
  · have hf : f x = -1 := Q.known.2 x fun e => hm ((Q.st.mem x).2 e)
    rcases RP_inv hv with ⟨_, hv2⟩ | ⟨b, e, _⟩
    · left
      exact ⟨hm, by rw [hrun, hv2]⟩
    · omega
set_option maxRecDepth 100000 in
theorem new_any (w : World) (B : Nat → Prop) (hB : ∀ k, B k → k < w.heap.size) : Calls Try.prog 9 #[] w fun e w' => e = .returned (.pointer (some ⟨w.heap.size + 1, 0, none⟩)) ∧ Hid (Que w' B (w.heap.size + 1) [] 0) ∧ Hid (Below w.heap.size w w') := by
  have hmm := @run_makeMap Try.prog
  go_enter Try.func9, Try.ntmps9
  go_wp2_with fail
  go_ret
  have hb := ((Below.refl w.heap.size w).alloc (Nat.le_refl _) (.map #[] 0)).alloc (by simp) (.cells #[.slice none 0 0, .map (some w.heap.size)] 59)
  have own := (World.ownsMap_made w Try.prog 3 RP).alloc (.cells #[.slice none 0 0, .map (some w.heap.size)] 59)
  have hbox := heap_alloc_new (w.alloc (.map #[] 0)) (.cells #[.slice none 0 0, .map (some w.heap.size)] 59)
  have hmap : ((w.alloc (.map #[] 0)).alloc (.cells #[.slice none 0 0, .map (some w.heap.size)] 59)).heap[w.heap.size]? = some (.map #[] 0) := by
    rw [Below.heap_alloc _ _ _ (by simp)]
    exact heap_alloc_new w _
  rw [World.size_alloc] at hbox
  have hpile : Pile ((w.alloc (.map #[] 0)).alloc (.cells #[.slice none 0 0, .map (some w.heap.size)] 59)) B none 0 [] := ⟨⟨rfl, Or.inl ⟨rfl, rfl⟩⟩, fun g hg => (nomatch hg), fun i hi => absurd hi (Nat.not_lt_zero _), List.Pairwise.nil⟩
  have hkn : Known [] (fun _ => -1) := ⟨fun e he => (nomatch he), fun _ _ => rfl⟩
  exact ⟨rfl, ⟨[], none, 0, w.heap.size, 0, .map [], fun _ => -1, ⟨hbox, hpile, fun h => by have := hB _ h; omega, fun k hk => by have := hB k hk; simp; omega, ⟨#[], 0, hmap⟩⟩, fun h => by have := hB _ h; omega, Nat.le_refl _, own, fun x _ => rfl, hkn, St.nil, Nat.zero_le _⟩, hb⟩
theorem neqM (m : Option Nat) (W : World) : (binOp .neq 57 (.map m) (.map none)).run Try.prog W = .ok (.bool (!m.isNone)) W := by
  cases m <;> kernel_rfl
set_option maxRecDepth 100000 in
theorem ok_any (q D : Nat) (w : World) (h : w.cell? ⟨q, 1, none⟩ = some (.map (some D))) : Calls Try.prog 25 #[.pointer (some ⟨q, 0, none⟩)] w fun e w' => e = .returned (.bool true) ∧ w = w' := by
  have nm1 := neqM none
  have nm2 := fun b => neqM (some b)
  go_enter Try.func25, Try.ntmps25
  go_wp2_with fail
  go_ret
  exact ⟨rfl, rfl⟩
set_option maxRecDepth 100000 in
theorem ok_nil (w : World) : Calls Try.prog 25 #[.pointer none] w fun e w' => e = .returned (.bool false) ∧ w = w' := by
  go_enter Try.func25, Try.ntmps25
  go_wp2_with fail
  go_ret
  exact ⟨rfl, rfl⟩
set_option maxRecDepth 100000 in
theorem ok_none (q : Nat) (w : World) (h : w.cell? ⟨q, 1, none⟩ = some (.map none)) : Calls Try.prog 25 #[.pointer (some ⟨q, 0, none⟩)] w fun e w' => e = .returned (.bool false) ∧ w = w' := by
  have nm1 := neqM none
  have nm2 := fun b => neqM (some b)
  go_enter Try.func25, Try.ntmps25
  go_wp2_with fail
  go_ret
  exact ⟨rfl, rfl⟩
set_option maxRecDepth 100000 in
theorem qlen_any (w : World) (B : Nat → Prop) (q : Nat) (L : List Pr) (N : Nat) (Q : Que w B q L N) : Calls Try.prog 13 #[.pointer (some ⟨q, 0, none⟩)] w fun e w' => e = .returned (.int .i64 (L.length : Nat)) ∧ w = w' := by
  obtain ⟨h, A, c, D, n, dm, f, Q⟩ := Q
  have c0 := Q.qp.c0
  have OK := Lib.hid (ok_any q D w (bcell Q.qp.box 1))
  rw [Q.st.len]
  have hn : h.length ≤ 1024 := Q.few
  clear Q
  generalize h.length = m at c0 hn ⊢
  go_enter Try.func13, Try.ntmps13
  go_wp2_with (go_at_call 25; (with_reducible refine OK.out.mono ?_); rintro e w1 ⟨rfl, rfl⟩)
  go_ret
  exact ⟨rfl, rfl⟩
def tilV (L : List Pr) (x : Int) : Int := (tilOf L x).getD 0
def hasV (L : List Pr) (x : Int) : Bool := (tilOf L x).isSome
set_option maxRecDepth 100000 in
theorem until_any (w : World) (B : Nat → Prop) (q : Nat) (L : List Pr) (N : Nat) (Q : Que w B q L N) (x : Int) (hx : wf64 x) : Calls Try.prog 12 #[.pointer (some ⟨q, 0, none⟩), .int .i64 x] w fun e w' => e = .returned (.tuple #[.int .i64 (tilV L x), .bool (hasV L x)]) ∧ w = w' := by
  obtain ⟨h, A, c, D, n, dm, f, Q⟩ := Q
  have c1 := bcell Q.qp.box 1
  have OK := Lib.hid (ok_any q D w c1)
  rcases Q.look hx with ⟨hm, hl⟩ | ⟨i, hi, hid, hm, hl⟩
  · have e1 : tilOf L x = none := tilOf_none.2 hm
    have HV : Hid (tilV L x = 0 ∧ hasV L x = false) := by unfold tilV hasV; rw [e1]; exact ⟨rfl, rfl⟩
    clear Q hm e1
    rw [HV.out.1, HV.out.2]
    clear HV
    go_enter Try.func12, Try.ntmps12
    go_wp2_with (go_at_call 25; (with_reducible refine OK.out.mono ?_); rintro e w1 ⟨rfl, rfl⟩)
    go_ret2
    exact ⟨rfl, rfl⟩
  · have ha := (Q.qp.pile.ents i hi).1
    have hmem : (x, (h.getD i ent0).til) ∈ L := Q.st.perm.mem_iff.1 (List.mem_map.2 ⟨_, getD_mem' hi, by unfold pr; rw [hid]⟩)
    have e1 := tilOf_some Q.st.idsNodup hmem
    have HV : Hid (tilV L x = (h.getD i ent0).til ∧ hasV L x = true) := by unfold tilV hasV; rw [e1]; exact ⟨rfl, rfl⟩
    have k1 := bcell ha 1
    rw [HV.out.1, HV.out.2]
    clear Q hm e1 HV ha hmem
    generalize h.getD i ent0 = a at hl k1 ⊢
    obtain ⟨ab, ai, at_⟩ := a
    simp only at hl k1 ⊢
    go_enter Try.func12, Try.ntmps12
    go_wp2_with (go_at_call 25; (with_reducible refine OK.out.mono ?_); rintro e w1 ⟨rfl, rfl⟩)
    go_ret2
    exact ⟨rfl, rfl⟩
def firstV : List Pr → Value
  | [] => .tuple #[.int .i64 0, .int .i64 0, .bool false]
  | p :: _ => .tuple #[.int .i64 p.1, .int .i64 p.2, .bool true]
set_option maxRecDepth 100000 in
set_option maxHeartbeats 1600000 in
theorem first_any (w : World) (B : Nat → Prop) (q : Nat) (L : List Pr) (N : Nat) (Q : Que w B q L N) : Calls Try.prog 20 #[.pointer (some ⟨q, 0, none⟩)] w fun e w' => e = .returned (firstV L) ∧ Hid (Below w.heap.size w w') := by
  obtain ⟨h, A, c, D, n, dm, f, Q⟩ := Q
  have c0 := Q.qp.c0
  have OK := Lib.hid (ok_any q D w (bcell Q.qp.box 1))
  by_cases h0 : h.length = 0
  · have hL : L = [] := List.eq_nil_of_length_eq_zero (by rw [Q.st.len]; exact h0)
    subst hL
    rw [h0] at c0
    clear Q h0
    go_enter Try.func20, Try.ntmps20
    go_wp2_with (go_at_call 25; (with_reducible refine OK.out.mono ?_); rintro e w1 ⟨rfl, rfl⟩)
    go_ret3
    exact ⟨rfl, Below.refl _ _⟩
  · have hp : 0 < h.length := by omega
    obtain ⟨r, hL⟩ := top_head Q.st.heap Q.st.perm Q.st.sorted Q.st.idsNodup hp
    have HV : Hid (firstV L = .tuple #[.int .i64 (h.getD 0 ent0).id, .int .i64 (h.getD 0 ent0).til, .bool true]) := by rw [hL]; rfl
    obtain ⟨g, cur, rfl, hgB, hh, hc, hsz, htk, hcur⟩ := Q.qp.pile.block hp
    have g0 := (bcell hh 0).trans (hcur 0 hp)
    have ha := (Q.qp.pile.ents 0 hp).1
    have k0 := bcell ha 0
    have k1 := bcell ha 1
    have hfew : h.length ≤ 1024 := Q.few
    have hz : ((h.length : Int) == 0) = false := by simpa using h0
    have hzI : (0 : Int) < (h.length : Int) := by omega
    have hp2 := hp
    rw [HV.out]
    clear Q hL HV ha hh hcur htk hc hsz h0 hp
    generalize h.length = m at c0 hfew hz hzI
    generalize h.getD 0 ent0 = a at g0 k0 k1 ⊢
    obtain ⟨ab, ai, at_⟩ := a
    simp only at g0 k0 k1 ⊢
    go_enter Try.func20, Try.ntmps20
    go_wp2_with (go_at_call 25; (with_reducible refine OK.out.mono ?_); rintro e w1 ⟨rfl, rfl⟩)
    go_quiet (fail)
    go_wp2_with fail
    go_ret3
    exact ⟨rfl, dr (Below.refl _ _) _⟩
end Go.Proofs.Ytiaonfmdjipekaa.Ls
