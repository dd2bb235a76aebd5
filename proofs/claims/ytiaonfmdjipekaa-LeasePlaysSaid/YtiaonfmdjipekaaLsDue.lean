/- Walks: Due. Conditions: the queue lies as Que says. -/
import Derived.Test.YtiaonfmdjipekaaLsDrop
set_option linter.unusedVariables false
namespace Go.Proofs.Ytiaonfmdjipekaa.Ls
open Go.RowKit Go.Maps
/-- others' blocks may be turned -/
theorem Que.other {w w' : World} {B B' : Nat → Prop} {q : Nat} {L : List Pr} {N : Nat} (Q : Que w B q L N) (hT : Turn B w w') (h1 : ∀ k, B' k → B k ∨ w.heap.size ≤ k) (h2 : ∀ k, B' k → k < w'.heap.size) : Que w' B' q L N := by
  obtain ⟨h, A, c, D, n, dm, f, Q⟩ := Q
  have nb : ∀ k, ¬ B k → k < w.heap.size → ¬ B' k := fun k h3 h4 h5 => (h1 k h5).elim h3 (by omega)
  have kb : ∀ k, ¬ B k → k < w.heap.size → w'.heap[k]? = w.heap[k]? := fun k h3 h4 => hT.block k h4 h3
  have ent : ∀ i, i < h.length → EntAt w' (h.getD i ent0) (i : Nat) ∧ ¬ B' (h.getD i ent0).blk := fun i hi => by
    have e := Q.qp.pile.ents i hi
    have hl := blt e.1
    exact ⟨(kb _ e.2 hl).trans e.1, nb _ e.2 hl⟩
  have hrow : w'.ownsRow 0 62 1 (.slice A h.length c) h.length (ptrs h) := by
    refine ⟨Q.qp.pile.row.1, ?_⟩
    rcases Q.qp.pile.row.2 with h3 | ⟨b, cap, cur, hv, hge, hh, r⟩
    · exact Or.inl h3
    · simp only [Value.slice.injEq] at hv
      exact Or.inr ⟨b, cap, cur, by rw [hv.1, hv.2.2], hge, (kb b (Q.qp.pile.out b hv.1) (blt hh)).trans hh, r⟩
  have hout : ∀ g, A = some ⟨g, 0, none⟩ → ¬ B' g := fun g hg => by
    refine nb g (Q.qp.pile.out g hg) ?_
    rcases Q.qp.pile.row.2 with ⟨h3, _⟩ | ⟨g', cap, cur, h3, _, h4, _⟩
    · rw [hg] at h3; simp at h3
    · rw [hg] at h3
      simp at h3
      rw [h3.1]
      exact blt h4
  have hD := kb D Q.base Q.qp.mapLt
  obtain ⟨es, ck, hmD⟩ := Q.qp.mapD
  exact ⟨h, A, c, D, n, dm, f, ⟨(kb q Q.qp.base (blt Q.qp.box)).trans Q.qp.box, ⟨hrow, hout, ent, Q.qp.pile.apart⟩, nb q Q.qp.base (blt Q.qp.box), h2, es, ck, hD.trans hmD⟩, nb D Q.base Q.qp.mapLt, Q.n_le, ownsMap_block Q.own hD, Q.says, Q.known, Q.st, Q.few⟩
theorem Que.state {w : World} {B : Nat → Prop} {q : Nat} {L : List Pr} {N : Nat} (Q : Que w B q L N) : L.Pairwise ltP ∧ (ids L).Nodup ∧ L.length ≤ 1024 ∧ ∀ p ∈ L, wf64 p.2 ∧ 1 ≤ p.1 ∧ p.1 < 9223372036854775808 := by
  obtain ⟨h, A, c, D, n, dm, f, Q⟩ := Q
  refine ⟨Q.st.sorted, Q.st.idsNodup, by rw [Q.st.len]; exact Q.few, fun p hp => ?_⟩
  obtain ⟨e, he, rfl⟩ := List.mem_map.1 (Q.st.perm.mem_iff.2 hp)
  exact Q.st.wf e he
theorem remP_head {p : Pr} {L : List Pr} (h : (ids (p :: L)).Nodup) : remP p.1 (p :: L) = L := by
  have h2 : p.1 ∉ ids L := (List.nodup_cons.1 h).1
  have : remP p.1 (p :: L) = remP p.1 L := by simp [remP]
  rw [this, remP_none h2]
def intVs (l : List Int) : List Value := l.map (.int .i64)
def BR (B : Nat → Prop) (v : Value) (k : Nat) : Prop := B k ∨ v.ownBlock = some k
/-- a list under way, and a queue beside it -/
structure DueSt (w : World) (B : Nat → Prop) (q N : Nat) (v : Value) (done : List Int) (M : List Pr) (wr : World) : Prop where
  que : Que wr (BR B v) q M N
  row : wr.ownsRow 0 3 1 v done.length (intVs done)
  keep : Keep B w wr
  new : ∀ g, v.ownBlock = some g → w.heap.size ≤ g
  old : ∀ k, B k → k < w.heap.size
theorem row_block {w w' : World} {e size n : Nat} {v : Value} {xs : List Value} (h : w.ownsRow 0 e size v n xs) (hb : ∀ g, v.ownBlock = some g → w'.heap[g]? = w.heap[g]?) : w'.ownsRow 0 e size v n xs := by
  refine ⟨h.1, ?_⟩
  rcases h.2 with h2 | ⟨b, cap, cur, hv, hge, hh, r⟩
  · exact Or.inl h2
  · exact Or.inr ⟨b, cap, cur, hv, hge, (hb b (by rw [hv]; simp [Value.ownBlock])).trans hh, r⟩
theorem row_lt {w : World} {e size n : Nat} {v : Value} {xs : List Value} (h : w.ownsRow 0 e size v n xs) (g : Nat) (hg : v.ownBlock = some g) : g < w.heap.size := by
  rcases h.2 with ⟨h2, _⟩ | ⟨b, cap, cur, hv, hge, hh, r⟩
  · rw [h2] at hg; simp [Value.ownBlock] at hg
  · rw [hv] at hg; simp [Value.ownBlock] at hg; rw [← hg]; exact blt hh
theorem DueSt.start {w : World} {B : Nat → Prop} {q N : Nat} {L : List Pr} (Q : Que w B q L N) : DueSt w B q N (.slice none 0 0) [] L w :=
  ⟨Q.other (Turn.refl _ _) (fun k hk => Or.inl (hk.elim id fun h => by simp [Value.ownBlock] at h)) (fun k hk => Q.old k (hk.elim id fun h => by simp [Value.ownBlock] at h)), World.ownsRow_nil _ _ _ _, Turn.refl _ _, fun g hg => by simp [Value.ownBlock] at hg, Q.old⟩
theorem DueSt.below {w w1 w2 : World} {B : Nat → Prop} {q N : Nat} {v : Value} {done : List Int} {M : List Pr} (S : DueSt w B q N v done M w1) (hb : Below w1.heap.size w1 w2) : DueSt w B q N v done M w2 :=
  ⟨S.que.below hb, row_block S.row fun g hg => hb.block g (row_lt S.row g hg), S.keep.trans (Turn.of_below hb), S.new, S.old⟩
theorem DueSt.grow {w w1 w2 : World} {B : Nat → Prop} {q N : Nat} {v v2 : Value} {done : List Int} {x : Int} {M : List Pr} (S : DueSt w B q N v done M w1) (hr : w2.ownsRow 0 3 1 v2 (done.length + 1) (intVs done ++ [.int .i64 x])) (hg : w1.grownBy w2 v.ownBlock) (hv : ∀ g, v2.ownBlock = some g → v.ownBlock = some g ∨ w1.heap.size ≤ g) : DueSt w B q N v2 (done ++ [x]) M w2 := by
  have hT : Turn (BR B v) w1 w2 := (Turn.refl _ _).grown hg fun k hk => Or.inr hk
  refine ⟨S.que.other hT (fun k hk => ?_) (fun k hk => ?_), ?_, ?_, fun g h => ?_, S.old⟩
  · rcases hk with hk | hk
    · exact Or.inl (Or.inl hk)
    · exact (hv k hk).imp (fun h => Or.inr h) id
  · rcases hk with hk | hk
    · exact Nat.lt_of_lt_of_le (S.que.old k (Or.inl hk)) hT.size
    · exact row_lt hr k hk
  · have e : intVs (done ++ [x]) = intVs done ++ [.int .i64 x] := by simp [intVs]
    rw [List.length_append, e]
    exact hr
  · refine S.keep.trans ((Turn.refl _ _).grown hg fun k hk hB => ?_)
    have h1 := S.new k hk
    have h2 := S.old k hB
    omega
  · exact (hv g h).elim (S.new g) fun h3 => Nat.le_trans S.keep.size h3
theorem DueSt.dropped {w w1 w2 : World} {B : Nat → Prop} {q N : Nat} {v : Value} {done : List Int} {M M' : List Pr} (S : DueSt w B q N v done M w1) (Q : Que w2 (BR B v) q M' N) (k : Keep (BR B v) w1 w2) : DueSt w B q N v done M' w2 :=
  ⟨Q, row_block S.row fun g hg => k.block g (row_lt S.row g hg) fun h => h (Or.inr hg), S.keep.trans (k.mono fun g _ h hB => h (Or.inl hB)), S.new, S.old⟩
theorem infoI : (Try.prog.info? 3).map (fun i => (i.zero, i.size, i.bytes)) = some (some (.int .i64 0), 1, 8) := by kernel_rfl
theorem append_int {w : World} {ops : Array Oper} {rest : List Oper} {o : Oper} {a : Act} {Q : Exit → Act → World → Prop} (hgd : o.guard = none) (s x : Operand) (ho : o.op = .call { callee := .builtin .append, args := #[s, x], argTypes := #[28, 28] })
    (v : Value) (n : Nat) (L : List Int) (hs : a.eval s = v) (hown : w.ownsRow 0 3 1 v n (intVs L)) (y : Int) (hx : a.eval x = .slice (some ⟨w.heap.size, 0, none⟩) 1 1) (hn : n ≤ 2000000)
    (h : ∀ v' w', w'.ownsRow 0 3 1 v' (n + 1) (intVs L ++ [.int .i64 y]) → (w.alloc (.cells #[.int .i64 y] 3)).grownBy w' v.ownBlock → (∀ g, v'.ownBlock = some g → v.ownBlock = some g ∨ (w.alloc (.cells #[.int .i64 y] 3)).heap.size ≤ g) → wpList Try.prog ops Q rest (a.put o.dst v') w') : wpList Try.prog ops Q (o :: rest) a (w.alloc (.cells #[.int .i64 y] 3)) := by
  obtain ⟨i0, hi, hz0, hz1, hz2⟩ := info_parts infoI
  refine wpList_append_ours _ hgd s x 28 ho 3 i0 (.int .i64 0) 1 8 Try.underlying28 hi hz0 hz1 hz2 rfl (by decide) v n (intVs L) hs (ownB hown ((Below.refl _ _).alloc (Nat.le_refl _) _)) ⟨w.heap.size, 0, none⟩ 1 1 [.int .i64 y] hx rfl ?_ ?_ (by unfold maxLen; omega) (by omega) (fun v' w' h1 h2 h3 => h v' w' h1 h2 h3)
  · intro j u hj
    rcases j with _ | j
    · simp at hj; subst hj
      simp [Addr.add]
    · simp at hj
  · intro u hu; simp at hu; subst hu; rfl
def idF : List Pr → Int
  | [] => 0
  | p :: _ => p.1
def tilF : List Pr → Int
  | [] => 0
  | p :: _ => p.2
def someF : List Pr → Bool
  | [] => false
  | _ :: _ => true
theorem firstV_parts (L : List Pr) : firstV L = .tuple #[.int .i64 (idF L), .int .i64 (tilF L), .bool (someF L)] := by
  cases L <;> rfl
set_option maxRecDepth 100000 in
set_option maxHeartbeats 3200000 in
theorem due_any (w : World) (B : Nat → Prop) (q : Nat) (L : List Pr) (N : Nat) (Q : Que w B q L N) (now : Int) (hnow : wf64 now) :
    Calls Try.prog 15 #[.pointer (some ⟨q, 0, none⟩), .int .i64 now] w fun e w' => ∃ v, e = .returned v ∧ Hid (DueSt w B q N v (dueL L now) (dueN L now) w') := by
  have FI : ∀ (M : List Pr) (done : List Int) (v : Value) (V : World), DueSt w B q N v done M V → Calls Try.prog 20 #[.pointer (some ⟨q, 0, none⟩)] V fun e w' => e = .returned (.tuple #[.int .i64 (idF M), .int .i64 (tilF M), .bool (someF M)]) ∧ Hid (DueSt w B q N v done M w') := fun M done v V hS =>
    (first_any V (BR B v) q M N hS.que).mono fun e w' ⟨h1, h2⟩ => ⟨h1.trans (by rw [firstV_parts]), hS.below h2.out⟩
  have FIH := Lib.hid FI
  have DR : Hid (∀ (p : Pr) (M : List Pr) (done : List Int) (v : Value) (V : World), DueSt w B q N v done (p :: M) V → Calls Try.prog 14 #[.pointer (some ⟨q, 0, none⟩), .int .i64 p.1] V fun e w' => (∃ c, e = .returned (.int .i64 c)) ∧ Hid (DueSt w B q N v done M w')) := fun p M done v V hS => by
    have st := hS.que.state
    have wf := (st.2.2.2 p List.mem_cons_self).2
    refine (drop_any V (BR B v) q (p :: M) N hS.que p.1 ⟨by omega, wf.2⟩).mono fun e w' ⟨h1, h2, h3⟩ => ⟨⟨_, h1⟩, hS.dropped ?_ h3.out⟩
    have h4 := h2.out
    rw [remP_head st.2.1] at h4
    exact h4
  have S0 := Lib.hid (DueSt.start Q)
  obtain ⟨F, hF⟩ : ∃ F, F = dueL L now := ⟨_, rfl⟩
  obtain ⟨G, hG⟩ : ∃ G, G = dueN L now := ⟨_, rfl⟩
  rw [← hF, ← hG]
  have HFG : Hid ([] ++ dueL L now = F ∧ dueN L now = G) := ⟨by rw [hF]; rfl, hG.symm⟩
  have HN := Lib.hid hnow
  have HL0 : Hid (([] : List Int).length + L.length ≤ 1024) := by have := Q.state.2.2.1; show _ ≤ _; simpa using this
  clear FI Q hF hG hnow
  go_enter Try.func15, Try.ntmps15
  go_wp2_with (go_at_call 20; (with_reducible refine (FIH.out _ _ _ _ S0.out).mono ?_); rintro e w1 ⟨rfl, S1⟩)
  clear S0
  go_loopg [5, 6, 7, 8] L.length (fun g v5 v6 v7 v8 wr => ∃ (M : List Pr) (done : List Int) (v : Value), v = v5 ∧ v6 = .int .i64 (idF M) ∧ v7 = .int .i64 (tilF M) ∧ v8 = .bool (someF M) ∧ M.length ≤ g ∧ Hid (DueSt w B q N v done M wr) ∧ Hid (done ++ dueL M now = F ∧ dueN M now = G) ∧ Hid (done.length + M.length ≤ 1024))
  case atStart => exact ⟨L, [], _, rfl, rfl, rfl, rfl, Nat.le_refl _, S1, HFG, HL0⟩
  case round =>
    clear S1 HFG HL0
    obtain ⟨M, done, v, rfl, rfl, rfl, rfl, hg, SM, HFG, HL⟩ := hrel
    cases M with
    | nil =>
      have HE : Hid (dueL [] now = [] ∧ dueN [] now = []) := ⟨rfl, rfl⟩
      have e1 : done = F := by have := HFG.out.1; rw [HE.out.1, List.append_nil] at this; exact this
      have e2 : ([] : List Pr) = G := HFG.out.2
      have SF := Lib.hid SM.out
      rw [e1, e2] at SF
      clear SM HFG HL HE e1 e2
      have hb : someF [] = false := rfl
      rw [hb]
      clear hb
      generalize idF [] = i0
      generalize tilF [] = t0
      go_wp2_with fail
      go_ret
      exact ⟨_, rfl, SF⟩
    | cons p M =>
      obtain ⟨x, t⟩ := p
      have hb : someF ((x, t) :: M) = true := rfl
      have h1 : idF ((x, t) :: M) = x := rfl
      have h2 : tilF ((x, t) :: M) = t := rfl
      rw [hb, h1, h2]
      clear hb h1 h2
      by_cases hle : t ≤ now
      · have HD : Hid (dueL ((x, t) :: M) now = x :: dueL M now ∧ dueN ((x, t) :: M) now = dueN M now) := by
          show _ ∧ _
          simp [dueL, dueN, ids, hle]
        have HF2 : Hid ((done ++ [x]) ++ dueL M now = F ∧ dueN M now = G) := by
          have h3 := HFG.out
          rw [HD.out.1, HD.out.2] at h3
          exact ⟨by rw [List.append_assoc]; exact h3.1, h3.2⟩
        have HO := Lib.hid SM.out.row
        obtain ⟨n, hn⟩ : ∃ n, n = done.length := ⟨_, rfl⟩
        have hnl : n ≤ 2000000 := by have := HL.out; rw [← hn] at this; omega
        have HL2 : Hid ((done ++ [x]).length + M.length ≤ 1024) := by have := HL.out; show _ ≤ _; rw [List.length_append]; simp at this ⊢; omega
        rw [← hn] at HO
        have HNN := Lib.hid hn
        have hgg : M.length + 1 ≤ gk := by simpa using hg
        clear HFG HD HL hn hg
        go_wp2_with (at_builtin; refine append_int rfl _ _ rfl v n done rfl HO.out x rfl hnl ?_)
        intro v' w2 hown hgrow hblk
        have hb1 := (Below.refl wr.heap.size wr).alloc (Nat.le_refl _) (.cells #[.int .i64 x] 3)
        have S2 : Hid (DueSt w B q N v' (done ++ [x]) ((x, t) :: M) w2) := (SM.out.below hb1).grow (by rw [← HNN.out]; exact hown) hgrow (fun g h => by rw [World.size_alloc]; exact hblk g h)
        clear hown hgrow hblk hb1 HO SM
        go_wp2_with (first
          | (go_at_call 14; (with_reducible refine (DR.out _ _ _ _ _ S2.out).mono ?_); rintro e w3 ⟨⟨c, rfl⟩, S3⟩)
          | (go_at_call 20; (with_reducible refine (FIH.out _ _ _ _ S3.out).mono ?_); rintro e w4 ⟨rfl, S4⟩))
        go_roundg M.length
        case rel => exact ⟨M, done ++ [x], v', rfl, rfl, rfl, rfl, Nat.le_refl _, S4, HF2, HL2⟩
        all_goals omega
      · have HD : Hid (dueL ((x, t) :: M) now = [] ∧ dueN ((x, t) :: M) now = (x, t) :: M) := by
          show _ ∧ _
          simp [dueL, dueN, ids, hle]
        have e1 : done = F := by have := HFG.out.1; rw [HD.out.1, List.append_nil] at this; exact this
        have e2 : (x, t) :: M = G := by have := HFG.out.2; rw [HD.out.2] at this; exact this
        have SF := Lib.hid SM.out
        rw [e1, e2] at SF
        clear SM HFG HL HD e1 e2 hg
        go_wp2_with fail
        go_ret
        exact ⟨_, rfl, SF⟩
end Go.Proofs.Ytiaonfmdjipekaa.Ls
