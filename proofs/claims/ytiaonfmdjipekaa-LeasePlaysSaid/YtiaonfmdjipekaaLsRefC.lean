/- The document's queue: All, Drop, Due. Conditions: rows that lie. -/
import Derived.Test.YtiaonfmdjipekaaLsRefB
import Derived.StillTailTactics
set_option linter.unusedVariables false
namespace Go.Proofs.Ytiaonfmdjipekaa.Ls
open Go.RowKit Go.Maps
def takeP (L : List Pr) (k : Nat) : List Int := ids (L.take k)
theorem takeP_succ {L : List Pr} {k : Nat} (h : k < L.length) : takeP L (k + 1) = takeP L k ++ [(L.getD k (0, 0)).1] := by
  unfold takeP ids
  rw [List.take_add_one, List.getElem?_eq_getElem h, List.map_append, List.getD_eq_getElem?_getD, List.getElem?_eq_getElem h]
  rfl
set_option maxRecDepth 100000 in
set_option maxHeartbeats 1600000 in
theorem rall_any (w : World) (r : Nat) (A : Option Addr) (c : Nat) (L : List Pr) (Q : RQ w r A c L) (hl : L.length ≤ 1024) :
    Calls Try.prog 24 #[.pointer (some ⟨r, 0, none⟩)] w fun e w' => ∃ v, e = .returned v ∧ Hid (w'.ownsRow w.heap.size 3 1 v L.length (intVs (ids L))) ∧ Hid (Below w.heap.size w w') := by
  have QH := Lib.hid Q
  have c0 := bcell Q.box 0
  have hrl := blt Q.box
  obtain ⟨n, hn⟩ : ∃ n, n = L.length := ⟨_, rfl⟩
  rw [← hn] at c0 hl ⊢
  have HN := Lib.hid hn
  have S0 : Hid (w.ownsRow w.heap.size 3 1 (.slice none 0 0) 0 (intVs (takeP L 0)) ∧ Below w.heap.size w w) := ⟨World.ownsRow_nil _ _ _ _, Below.refl _ _⟩
  clear Q hn
  go_enter Try.func24, Try.ntmps24
  go_wp2_with fail
  go_loopw [3, 4] (fun u v wr => ∃ (k : Nat) (row : Value), k ≤ n ∧ row = u ∧ v = .int .i64 (k : Nat) ∧ Hid (wr.ownsRow w.heap.size 3 1 row k (intVs (takeP L k)) ∧ Below w.heap.size w wr)) (fun _ v _ => n - (intOf v).toNat)
  case atStart => exact ⟨0, _, Nat.zero_le _, rfl, rfl, S0⟩
  case round =>
    clear S0
    obtain ⟨k, row, hk, rfl, rfl, HS⟩ := hrel
    have c1 : wr.cell? ⟨r, 0, none⟩ = some (.slice A n c) := (HS.out.2.cell (p := ⟨r, 0, none⟩) hrl).trans c0
    by_cases hlt : k < n
    · obtain ⟨b, off, hA, hbl, hc0, hc1⟩ := (QH.out.row.below HS.out.2).get k (by rw [← HN.out]; exact hlt)
      have HO := Lib.hid HS.out.1
      have HB := Lib.hid HS.out.2
      have HW := Lib.hid HS.out.2.size
      have HT : Hid (takeP L (k + 1) = takeP L k ++ [(L.getD k (0, 0)).1]) := takeP_succ (by rw [← HN.out]; exact hlt)
      subst hA
      generalize (L.getD k (0, 0)).1 = i at hc0 HT
      have hkI : (k : Int) < (n : Int) := by omega
      have hk2 : k ≤ 2000000 := by omega
      clear HS hc1
      go_wp2_with (at_builtin; refine append_intb rfl _ _ rfl w.heap.size row k (takeP L k) rfl HO.out i rfl hk2 HW.out ?_)
      intro v' w4 hown hgrow
      have HS2 : Hid (w4.ownsRow w.heap.size 3 1 v' (k + 1) (intVs (takeP L (k + 1))) ∧ Below w.heap.size w w4) := ⟨by rw [HT.out, show intVs (takeP L k ++ [i]) = intVs (takeP L k) ++ [.int .i64 i] by simp [intVs]]; exact hown, (HB.out.alloc HW.out _).grown hgrow (by have := HW.out; simp; omega) (fun g' hg' => own_ge HO.out g' hg')⟩
      clear hown hgrow HO HB
      go_wp2_with fail
      go_roundw
      case rel => exact ⟨k + 1, v', by omega, rfl, by go_num, HS2.out⟩
      case measure => simp [intOf]; omega
    · obtain rfl : k = n := by omega
      have HF : Hid (wr.ownsRow w.heap.size 3 1 row k (intVs (ids L)) ∧ Below w.heap.size w wr) := by
        have h := HS.out
        have e : takeP L k = ids L := by unfold takeP; rw [HN.out, List.take_length]
        rw [e] at h
        exact h
      clear HS
      go_wp2_with fail
      go_ret
      exact ⟨_, rfl, HF.out.1, HF.out.2⟩
/-- the document's queue, and what of the rest is kept -/
def RPost (w : World) (r : Nat) (A : Option Addr) (L' : List Pr) (w' : World) : Prop := ∃ A' c', RQ w' r A' c' L' ∧ (∀ b off, A' = some ⟨b, off, none⟩ → (w.heap.size ≤ b ∨ ∃ off', A = some ⟨b, off', none⟩) ∧ b < w'.heap.size) ∧ Turn (fun k => k = r) w w'
theorem RPost.of_set {w w1 : World} {r : Nat} {A A' : Option Addr} {c c' : Nat} {L L' : List Pr} (Q : RQ w r A c L) (hb : Below w.heap.size w w1) (hp : PrsAt w1 A' c' L') (hA : ∀ b off, A' = some ⟨b, off, none⟩ → (w.heap.size ≤ b ∨ ∃ off', A = some ⟨b, off', none⟩) ∧ b ≠ r ∧ b < w1.heap.size) : RPost w r A L' (w1.setCell ⟨r, 0, none⟩ (.slice A' L'.length c')) := by
  have hb1 : w1.heap[r]? = some (.cells #[.slice A L.length c] 45 (0, 0)) := (hb.block _ (blt Q.box)).trans Q.box
  refine ⟨A', c', ⟨?_, hp.kept (by simp) fun b off e _ => ?_, fun b off e => (hA b off e).2.1⟩, fun b off e => ⟨(hA b off e).1, by simpa using (hA b off e).2.2⟩, ?_⟩
  · rw [set_at hb1]
    rfl
  · exact Below.heap_setCell _ _ _ _ (hA b off e).2.1
  · exact Turn.set (S := fun k => k = r) (Turn.of_below hb) (g := r) rfl 0 _
set_option maxRecDepth 100000 in
set_option maxHeartbeats 1600000 in
theorem rdrop_any (w : World) (r : Nat) (A : Option Addr) (c : Nat) (L : List Pr) (Q : RQ w r A c L) (x : Int) (hl : L.length ≤ 1024) (hn : (ids L).Nodup) (hA : ∀ b off, A = some ⟨b, off, none⟩ → b < w.heap.size) :
    Calls Try.prog 32 #[.pointer (some ⟨r, 0, none⟩), .int .i64 x] w fun e w' => e = .returned (.int .i64 (dropC L x)) ∧ Hid (RPost w r A (remP x L) w') := by
  have c0 := bcell Q.box 0
  have f0 := bfree Q.box 0
  have QH := Lib.hid Q
  have FI := Lib.hid (find_any w r A c L Q x hl)
  rcases findZ_cases L x with ⟨hz, hm⟩ | ⟨k, hz, hk, hx, hm⟩
  · rw [hz] at FI
    have e1 : dropC L x = 6 := if_neg hm
    have e2 : remP x L = L := remP_none hm
    rw [e1, e2]
    clear Q hz hm e1 e2
    go_enter Try.func32, Try.ntmps32
    go_wp2_with (go_at_call 35; (with_reducible refine FI.out.mono ?_); rintro e w1 ⟨rfl, rfl⟩)
    go_ret
    exact ⟨rfl, A, c, QH.out, fun b off e => ⟨Or.inr ⟨off, e⟩, hA b off e⟩, Turn.refl _ _⟩
  · rw [hz] at FI
    have e1 : dropC L x = 0 := if_pos hm
    rw [e1]
    have hlen : (remP x L).length = L.length - 1 := by have := remP_len hn hm; omega
    have WO := without_any w A c L Q.row k hk hl
    rw [cut_remP hn hk hx, ← hlen] at WO
    have WOH := Lib.hid WO
    have hrl := blt Q.box
    have nk : ¬ ((k : Int) < 0) := by omega
    have SET : Hid (∀ w1 A' c', Below w.heap.size w w1 → PrsAt w1 A' c' (remP x L) → (∀ b off, A' = some ⟨b, off, none⟩ → w.heap.size ≤ b ∧ b < w1.heap.size) → RPost w r A (remP x L) (w1.setCell ⟨r, 0, none⟩ (.slice A' (remP x L).length c'))) := fun w1 A' c' hb hp hA => RPost.of_set QH.out hb hp fun b off e => ⟨Or.inl (hA b off e).1, by have := (hA b off e).1; omega, (hA b off e).2⟩
    have CC : Hid (∀ w1, Below w.heap.size w w1 → w1.cell? ⟨r, 0, none⟩ = some (.slice A L.length c) ∧ w1.frozen? ⟨r, 0, none⟩ = false) := fun w1 hb => ⟨(hb.cell (p := ⟨r, 0, none⟩) hrl).trans c0, (hb.frozen (p := ⟨r, 0, none⟩) hrl).trans f0⟩
    clear Q hz hm e1 hx hk WO hlen
    generalize remP x L = M at WOH SET ⊢
    generalize L.length = n at WOH c0 CC
    generalize hmm : M.length = m at WOH SET
    go_enter Try.func32, Try.ntmps32
    go_wp2_with (first
      | (go_at_call 35; (with_reducible refine FI.out.mono ?_); rintro e w1 ⟨rfl, rfl⟩)
      | (go_at_call 43; (with_reducible refine WOH.out.mono ?_); rintro e w2 ⟨A', c', rfl, P2, N2, B2⟩; obtain ⟨c2, f2⟩ := CC.out _ B2.out))
    go_ret
    exact ⟨rfl, SET.out _ _ _ B2.out P2.out N2.out⟩
theorem subA_block {A : Option Addr} {k c b off : Nat} (hA : (A = none ∧ c = 0) ∨ ∃ b off, A = some ⟨b, off, none⟩) (h : subA A k c = some ⟨b, off, none⟩) : ∃ off', A = some ⟨b, off', none⟩ := by
  unfold subA at h
  rcases hA with ⟨rfl, _⟩ | ⟨b', off', rfl⟩
  · split at h <;> cases h
  · split at h
    · cases h
      exact ⟨_, rfl⟩
    · simp [addr_add] at h
      exact ⟨off', by rw [h.1]⟩
structure RD (w : World) (r : Nat) (A : Option Addr) (c' : Nat) (A' : Option Addr) (done : List Int) (M : List Pr) (row : Value) (wr : World) : Prop where
  q : RQ wr r A' c' M
  from_ : ∀ b off, A' = some ⟨b, off, none⟩ → ∃ off', A = some ⟨b, off', none⟩
  own : wr.ownsRow w.heap.size 3 1 row done.length (intVs done)
  turn : Turn (fun k => k = r) w wr
  lt : r < w.heap.size
theorem RD.step {w wr w1 : World} {r : Nat} {A : Option Addr} {c' : Nat} {A' : Option Addr} {done : List Int} {x t : Int} {M : List Pr} {row row' : Value} (S : RD w r A c' A' done ((x, t) :: M) row wr)
    (hb : Below wr.heap.size wr (wr.alloc (.cells #[.int .i64 x] 3))) (hown : w1.ownsRow w.heap.size 3 1 row' (done.length + 1) (intVs done ++ [.int .i64 x])) (hg : (wr.alloc (.cells #[.int .i64 x] 3)).grownBy w1 row.ownBlock) (hal : ∀ b off, A' = some ⟨b, off, none⟩ → b < w.heap.size) :
    w1.cell? ⟨r, 0, none⟩ = some (.slice A' (M.length + 1) c') ∧ w1.frozen? ⟨r, 0, none⟩ = false ∧ RD w r A (c' - 1) (subA A' 1 c') (done ++ [x]) M row' (w1.setCell ⟨r, 0, none⟩ (.slice (subA A' 1 c') M.length (c' - 1))) := by
  have hk : ∀ k, k < w.heap.size → w1.heap[k]? = wr.heap[k]? := fun k hk => (hg.block k (by simp; have := S.turn.size; omega) fun e => by have := own_ge S.own k e.symm; omega).trans (hb.block k (by have := S.turn.size; omega))
  have hbox : w1.heap[r]? = some (.cells #[.slice A' (M.length + 1) c'] 45 (0, 0)) := (hk r S.lt).trans S.q.box
  have hsz : wr.heap.size ≤ w1.heap.size := by have := hg.size; simp at this; omega
  refine ⟨bcell hbox 0, bfree hbox 0, ⟨⟨?_, ?_, ?_⟩, ?_, ?_, ?_, S.lt⟩⟩
  · rw [set_at hbox]; rfl
  · have h1 := (S.q.row.drop 1 (by simp)).kept (w' := w1.setCell ⟨r, 0, none⟩ (.slice (subA A' 1 c') M.length (c' - 1))) (by simp; omega) fun b off e hl => by
      obtain ⟨off', e2⟩ := subA_block S.q.row.form e
      exact (Below.heap_setCell _ _ _ _ (S.q.apart b off' e2)).trans (hk b (hal b off' e2))
    simpa using h1
  · intro b off e
    obtain ⟨off', e2⟩ := subA_block S.q.row.form e
    exact S.q.apart b off' e2
  · intro b off e
    obtain ⟨off', e2⟩ := subA_block S.q.row.form e
    exact S.from_ b off' e2
  · rw [List.length_append, List.length_singleton, show intVs (done ++ [x]) = intVs done ++ [.int .i64 x] by simp [intVs]]
    refine hown.kept (grownBy_setCell' w1 r _) ?_
    rcases hown.2 with ⟨rfl, h0⟩ | ⟨g, cap, cur, rfl, hge, _⟩
    · exact .inl rfl
    · refine .inr fun e => ?_
      have : g = r := by simpa [Value.ownBlock] using e
      have := S.lt
      omega
  · have h2 : Turn (fun k => k = r) w w1 := ⟨hg.os.trans (hb.os.trans S.turn.os), hg.tape.trans (hb.tape.trans S.turn.tape), hg.output.trans (hb.output.trans S.turn.output), Nat.le_trans S.turn.size hsz, fun k hl hn => (hk k hl).trans (S.turn.block k hl hn)⟩
    exact Turn.set (S := fun k => k = r) h2 (g := r) rfl 0 _
set_option maxRecDepth 100000 in
set_option maxHeartbeats 1600000 in
theorem rdue_any (w : World) (r : Nat) (A : Option Addr) (c : Nat) (L : List Pr) (Q : RQ w r A c L) (now : Int) (hl : L.length ≤ 1024) (hA : ∀ b off, A = some ⟨b, off, none⟩ → b < w.heap.size) :
    Calls Try.prog 33 #[.pointer (some ⟨r, 0, none⟩), .int .i64 now] w fun e w' => ∃ v, e = .returned v ∧ Hid (w'.ownsRow w.heap.size 3 1 v (dueL L now).length (intVs (dueL L now))) ∧ Hid (RPost w r A (dueN L now) w') := by
  have S0 : Hid (RD w r A c A [] L (.slice none 0 0) w) := ⟨Q, fun b off e => ⟨off, e⟩, World.ownsRow_nil _ _ _ _, Turn.refl _ _, blt Q.box⟩
  have HA := Lib.hid hA
  obtain ⟨F, hF⟩ : ∃ F, F = dueL L now := ⟨_, rfl⟩
  obtain ⟨G, hG⟩ : ∃ G, G = dueN L now := ⟨_, rfl⟩
  rw [← hF, ← hG]
  have HFG : Hid ([] ++ dueL L now = F ∧ dueN L now = G) := ⟨by rw [hF]; rfl, hG.symm⟩
  have HL0 : Hid (([] : List Int).length + L.length ≤ 1024) := by show _ ≤ _; simpa using hl
  clear Q hF hG hA
  go_enter Try.func33, Try.ntmps33
  go_wp2_with fail
  go_loopg [5] L.length (fun g v5 wr => ∃ (M : List Pr) (done : List Int) (v : Value) (A' : Option Addr) (c' : Nat), v = v5 ∧ M.length ≤ g ∧ Hid (RD w r A c' A' done M v wr) ∧ Hid (done ++ dueL M now = F ∧ dueN M now = G) ∧ Hid (done.length + M.length ≤ 1024))
  case atStart => exact ⟨L, [], _, A, c, rfl, Nat.le_refl _, S0, HFG, HL0⟩
  case round =>
    clear S0 HFG HL0 hl
    obtain ⟨M, done, v, A', c', rfl, hg, SM, HFG, HL⟩ := hrel
    have FIN : Hid (∀ wq, RD w r A c' A' F G v wq → (wq.ownsRow w.heap.size 3 1 v F.length (intVs F)) ∧ RPost w r A G wq) := fun wq S => ⟨S.own, A', c', S.q, fun b off e => ⟨Or.inr (S.from_ b off e), by
      obtain ⟨off', e2⟩ := S.from_ b off e
      have := HA.out b off' e2
      have := S.turn.size
      omega⟩, S.turn⟩
    have c0 := bcell SM.out.q.box 0
    cases M with
    | nil =>
      have e1 : done = F := by have h := HFG.out.1; unfold dueL ids at h; simpa using h
      have e2 : ([] : List Pr) = G := HFG.out.2
      have SF := SM.out
      rw [e1, e2] at SF
      have SFH := Lib.hid (FIN.out _ SF)
      have c1 : wr.cell? ⟨r, 0, none⟩ = some (.slice A' 0 c') := c0
      clear SM HFG HL e1 e2 SF FIN c0 hg
      go_wp2_with fail
      go_ret
      exact ⟨_, rfl, SFH.out.1, SFH.out.2⟩
    | cons p M =>
      obtain ⟨x, t⟩ := p
      obtain ⟨b, off, hAe, hbl, hc0, hc1⟩ := SM.out.q.row.get 0 (by simp)
      have c1 : wr.cell? ⟨r, 0, none⟩ = some (.slice A' (M.length + 1) c') := c0
      have d0 : wr.cell? ⟨b, off, none⟩ = some (.int .i64 x) := by simpa using hc0
      have d1 : wr.cell? ⟨b, off + 1, none⟩ = some (.int .i64 t) := by simpa using hc1
      have hmI : (0 : Int) < (M.length : Int) + 1 := by omega
      by_cases hle : t ≤ now
      · have HD : Hid (dueL ((x, t) :: M) now = x :: dueL M now ∧ dueN ((x, t) :: M) now = dueN M now) := by
          show _ ∧ _
          simp [dueL, dueN, ids, hle]
        have HF2 : Hid ((done ++ [x]) ++ dueL M now = F ∧ dueN M now = G) := by
          have h3 := HFG.out
          rw [HD.out.1, HD.out.2] at h3
          exact ⟨by rw [List.append_assoc]; exact h3.1, h3.2⟩
        have hcap := SM.out.q.row.cap
        simp only [List.length_cons] at hcap
        have SL := sl_from A' (M.length + 1) c' 1 (by omega)
        have SL2 : ∀ W, (Instr.sliceAt 43 (.slice A' (M.length + 1) c') (some (.int .i64 1)) none none).run Try.prog W = .ok (.slice (subA A' 1 c') M.length (c' - 1)) W := SL
        have HL2 : Hid ((done ++ [x]).length + M.length ≤ 1024) := by have := HL.out; show _ ≤ _; rw [List.length_append]; simp at this ⊢; omega
        have HO := Lib.hid SM.out.own
        have HW := Lib.hid SM.out.turn.size
        have hnl : done.length ≤ 2000000 := by have := HL.out; omega
        have hgg : M.length + 1 ≤ gk := by simpa using hg
        have HAL : Hid (∀ b off, A' = some ⟨b, off, none⟩ → b < w.heap.size) := fun b off e => by
          obtain ⟨off', e2⟩ := SM.out.from_ b off e
          exact HA.out b off' e2
        have STEP : Hid (∀ w1 row', w1.ownsRow w.heap.size 3 1 row' (done.length + 1) (intVs done ++ [.int .i64 x]) → (wr.alloc (.cells #[.int .i64 x] 3)).grownBy w1 v.ownBlock → w1.cell? ⟨r, 0, none⟩ = some (.slice A' (M.length + 1) c') ∧ w1.frozen? ⟨r, 0, none⟩ = false ∧ RD w r A (c' - 1) (subA A' 1 c') (done ++ [x]) M row' (w1.setCell ⟨r, 0, none⟩ (.slice (subA A' 1 c') M.length (c' - 1)))) := fun w1 row' h1 h2 => SM.out.step ((Below.refl _ _).alloc (Nat.le_refl _) _) h1 h2 HAL.out
        have hAe2 := hAe
        subst hAe
        clear HFG HD HL hg c0 hc0 hc1 SL hcap SM FIN
        generalize hdn : done.length = dn at hnl HO STEP
        clear hdn
        generalize subA (some ⟨b, off, none⟩) 1 c' = A2 at SL2 STEP
        have SL3 := SL2
        go_wp2_with (at_builtin; refine append_intb rfl _ _ rfl w.heap.size v dn done rfl HO.out x rfl hnl HW.out ?_)
        intro v' w4 hown hgrow
        obtain ⟨c4, f4, R4⟩ := STEP.out _ _ hown hgrow
        have RH := Lib.hid R4
        clear hown hgrow STEP R4 HO
        go_wp2_with fail
        go_roundg M.length
        case rel => exact ⟨M, done ++ [x], v', A2, c' - 1, rfl, Nat.le_refl _, RH, HF2, HL2⟩
        all_goals omega
      · have e1 : done = F := by have h := HFG.out.1; unfold dueL at h; rw [List.takeWhile_cons] at h; simpa [hle, ids] using h
        have e2 : (x, t) :: M = G := by have h := HFG.out.2; unfold dueN at h; rw [List.dropWhile_cons] at h; simpa [hle] using h
        have SF := SM.out
        rw [e1, e2] at SF
        have SFH := Lib.hid (FIN.out _ SF)
        subst hAe
        clear SM HFG HL e1 e2 SF FIN c0 hg hc0 hc1
        go_wp2_with fail
        go_ret
        exact ⟨_, rfl, SFH.out.1, SFH.out.2⟩
end Go.Proofs.Ytiaonfmdjipekaa.Ls
