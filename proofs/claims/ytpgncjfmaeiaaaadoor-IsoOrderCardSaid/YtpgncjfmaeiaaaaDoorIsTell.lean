/- The three relations: tell, Equal, Like, Iso, the walk. Conditions: no text, no row of kids of a right graph too long. -/
import Derived.Test.YtpgncjfmaeiaaaaDoorIsTo
import Derived.Test.YtpgncjfmaeiaaaaDoorIsLaws
set_option linter.unusedVariables false
namespace Go.Proofs.YtpgncjfmaeiaaaaDoor.Is
open Go.RowKit
theorem to_all (w0 : World) (h : Sh) (a b : Gv) (ord : Bool) (T : Two w0 h a b) : ∀ N, ToSpec w0 h a b ord N
  | 0 => fun W met x _ _ _ _ hmu => absurd hmu (Nat.not_lt_zero _)
  | N + 1 => to_step w0 h a b ord N T (to_all w0 h a b ord T N)
/-- what a pairing answers -/
def tellR (a b : Gv) (ord once : Bool) : Bool × Int := if rightN a = true ∧ rightN b = true then (tellN a b ord once, 0) else (false, 1)
def TellPost (r : Bool × Int) (w : World) (e : Ending) (w' : World) : Prop := e = .returned (.tuple #[.bool r.1, .int .i64 r.2]) ∧ Below w.heap.size w w'
theorem mk_pm (w : World) : ∃ b w', (Instr.makeMap 67 none).run Tryd.prog w = .ok (.map (some b)) w' ∧ Hid (MF w' 55 b 0 (fun _ => none)) ∧ Hid (Below w.heap.size w w') ∧ Hid (b = w.heap.size) :=
  ⟨w.heap.size, w.alloc (.map #[] 0), run_makeMap _ w, MF.made w _, ext_world w _, rfl⟩
theorem mk_im (w : World) : ∃ b w', (Instr.makeMap 68 none).run Tryd.prog w = .ok (.map (some b)) w' ∧ Hid (MF w' 3 b 0 (fun _ => none)) ∧ Hid (Below w.heap.size w w') ∧ Hid (b = w.heap.size) :=
  ⟨w.heap.size, w.alloc (.map #[] 0), run_makeMap _ w, MF.made w _, ext_world w _, rfl⟩
theorem made_pair {w3 wA wB wC : World} {bM bL bR : Nat} (a b : Gv) (ord : Bool) (mA : MF wA 55 bM 0 (fun _ => none)) (hbA : Below w3.heap.size w3 wA) (eA : bM = w3.heap.size) (mB : MF wB 3 bL 0 (fun _ => none)) (hbB : Below wA.heap.size wA wB) (eB : bL = wA.heap.size) (mC : MF wC 3 bR 0 (fun _ => none)) (hbC : Below wB.heap.size wB wC) (eC : bR = wB.heap.size) :
    Hid (PIn (wC.alloc (.cells (pCells ⟨wC.heap.size, bM, bL, bR⟩ a b ord false) 70)) ⟨wC.heap.size, bM, bL, bR⟩ a b ord []) ∧ Hid (∀ k, (Sh.mk wC.heap.size bM bL bR).S k → w3.heap.size ≤ k) ∧ Hid (Below w3.heap.size w3 (wC.alloc (.cells (pCells ⟨wC.heap.size, bM, bL, bR⟩ a b ord false) 70))) := by
  have z1 := hbA.size
  have z2 := hbB.size
  have z3 := hbC.size
  have y1 := mA.lt
  have y2 := mB.lt
  have y3 := mC.lt
  have hAC : Below w3.heap.size w3 wC := (hbA.trans (hbB.mono z1)).trans (hbC.mono (Nat.le_trans z1 z2))
  refine ⟨⟨heap_new wC _ _, ⟨?_, ?_, ?_, ?_, ?_, ?_⟩, _, _, _, ((mA.below hbB).below hbC).below (ext_world wC _), (mB.below hbC).below (ext_world wC _), mC.below (ext_world wC _), ⟨fun x => ?_, fun x => rfl, fun x => rfl⟩⟩, ?_, hAC.alloc hAC.size _⟩
  · show wC.heap.size ≠ bM; omega
  · show wC.heap.size ≠ bL; omega
  · show wC.heap.size ≠ bR; omega
  · show bM ≠ bL; omega
  · show bM ≠ bR; omega
  · show bL ≠ bR; omega
  · rw [if_neg List.not_mem_nil]
  · intro k hk
    rcases hk with h9 | h9 | h9 | h9
    · have h8 : k = wC.heap.size := h9
      omega
    · have h8 : k = bM := h9
      omega
    · have h8 : k = bL := h9
      omega
    · have h8 : k = bR := h9
      omega
set_option maxRecDepth 100000 in
set_option maxHeartbeats 3200000 in
theorem tell_any (a b : Gv) (ord once : Bool) (w : World) (E : Env w) (Ga : GrIn w a) (Gb : GrIn w b) (Sa : SmallG a.ns) (Sb : SmallG b.ns) :
    Calls Tryd.prog 20 #[a.val, b.val, .bool ord, .bool once] w (TellPost (tellR a b ord once) w) := by
  have RA : Hid (∀ V, Below w.heap.size w V → Calls Tryd.prog 15 #[.agg #[.slice a.A a.ns.length a.c, .int .i64 a.root]] V (BoolPost (rightN a) V)) := fun V hV => right_any a V (E.below hV) (Ga.below hV) Sa
  have RB : Hid (∀ V, Below w.heap.size w V → Calls Tryd.prog 15 #[.agg #[.slice b.A b.ns.length b.c, .int .i64 b.root]] V (BoolPost (rightN b) V)) := fun V hV => right_any b V (E.below hV) (Gb.below hV) Sb
  have BV : Hid (Below w.heap.size w ((w.alloc (.cells #[.slice a.A a.ns.length a.c, .int .i64 a.root] 24)).alloc (.cells #[.slice b.A b.ns.length b.c, .int .i64 b.root] 24))) := (ext_world w _).alloc (by simp) _
  have hs1 : (w.alloc (.cells #[.slice a.A a.ns.length a.c, .int .i64 a.root] 24)).heap.size = w.heap.size + 1 := by simp
  have a0 : ((w.alloc (.cells #[.slice a.A a.ns.length a.c, .int .i64 a.root] 24)).alloc (.cells #[.slice b.A b.ns.length b.c, .int .i64 b.root] 24)).cell? ⟨w.heap.size, 0, none⟩ = some (.slice a.A a.ns.length a.c) := (Below.cell (ext_world _ _) (p := ⟨w.heap.size, 0, none⟩) (by simp)).trans (bcell (heap_new w _ _) 0)
  have a1 : ((w.alloc (.cells #[.slice a.A a.ns.length a.c, .int .i64 a.root] 24)).alloc (.cells #[.slice b.A b.ns.length b.c, .int .i64 b.root] 24)).cell? ⟨w.heap.size, 1, none⟩ = some (.int .i64 a.root) := (Below.cell (ext_world _ _) (p := ⟨w.heap.size, 1, none⟩) (by simp)).trans (bcell (heap_new w _ _) 1)
  have b0 : ((w.alloc (.cells #[.slice a.A a.ns.length a.c, .int .i64 a.root] 24)).alloc (.cells #[.slice b.A b.ns.length b.c, .int .i64 b.root] 24)).cell? ⟨w.heap.size + 1, 0, none⟩ = some (.slice b.A b.ns.length b.c) := by have h9 := bcell (heap_new (w.alloc (.cells #[.slice a.A a.ns.length a.c, .int .i64 a.root] 24)) #[.slice b.A b.ns.length b.c, .int .i64 b.root] 24) 0; rw [hs1] at h9; exact h9
  have b1 : ((w.alloc (.cells #[.slice a.A a.ns.length a.c, .int .i64 a.root] 24)).alloc (.cells #[.slice b.A b.ns.length b.c, .int .i64 b.root] 24)).cell? ⟨w.heap.size + 1, 1, none⟩ = some (.int .i64 b.root) := by have h9 := bcell (heap_new (w.alloc (.cells #[.slice a.A a.ns.length a.c, .int .i64 a.root] 24)) #[.slice b.A b.ns.length b.c, .int .i64 b.root] 24) 1; rw [hs1] at h9; exact h9
  have TW : Hid (∀ (V : World) (h : Sh) (W : World), Below w.heap.size w V → rightN a = true → rightN b = true → (∀ k, h.S k → V.heap.size ≤ k) → Below V.heap.size V W → PIn W h a b ord [] →
      Calls Tryd.prog 30 #[.pointer (some ⟨h.p, 0, none⟩), .agg #[.int .i64 a.root, .int .i64 b.root]] W (ToPost h a b ord (toF (chN a b ord) (a.ns.length * b.ns.length + 1) [] (a.root, b.root)) W)) := fun V h W hV ra rb hS hW P =>
    to_all V h a b ord ⟨Ga.below hV, Gb.below hV, Sa (right_len ra).2.1, Sb (right_len rb).2.1, ra, rb, hS⟩ _ W [] (a.root, b.root) hW P (OkM.nil _ _) (root_in ra rb) (by rw [mu_nil]; exact Nat.lt_succ_self _)
  obtain ⟨R, hR⟩ : ∃ R, R = tellR a b ord once := ⟨_, rfl⟩
  rw [← hR]
  unfold tellR tellN at hR
  have HR := Lib.hid hR
  unfold Gv.val
  clear hR Ga Gb Sa Sb E hs1
  generalize hra : rightN a = ra at RA HR TW
  generalize hrb : rightN b = rb at RB HR TW
  clear hra hrb
  obtain ⟨r, hr⟩ : ∃ r, r = toF (chN a b ord) (a.ns.length * b.ns.length + 1) [] (a.root, b.root) := ⟨_, rfl⟩
  rw [← hr] at TW HR
  clear hr
  cases ra with
  | false =>
    have HR0 : Hid (R = (false, 1)) := by show _ = _; rw [HR.out, if_neg (by simp)]
    clear HR TW RB
    obtain ⟨R1, R2⟩ := R
    injection HR0.out with e1 e2
    subst e1 e2
    go_enter Tryd.func20, Tryd.ntmps20
    go_wp2_with (go_at_call 15; (with_reducible refine (RA.out _ BV.out).mono ?_); rintro e w2 ⟨rfl, hb2⟩)
    exact bodyPost_ret (v := .tuple #[.bool false, .int .i64 1]) (by simp [results, Tryd.results20, go_sem]) rfl ⟨rfl, BV.out.trans (hb2.mono BV.out.size)⟩
  | true =>
    cases rb with
    | false =>
      have HR0 : Hid (R = (false, 1)) := by show _ = _; rw [HR.out, if_neg (by simp)]
      clear HR TW
      obtain ⟨R1, R2⟩ := R
      injection HR0.out with e1 e2
      subst e1 e2
      go_enter Tryd.func20, Tryd.ntmps20
      go_wp2_with (first
        | (go_at_call 15; (with_reducible refine (RA.out _ BV.out).mono ?_); rintro e w2 ⟨rfl, hb2⟩; have q0 := (hb2.cell (p := ⟨w.heap.size + 1, 0, none⟩) (block_lt_of_cell b0)).trans b0; have q1 := (hb2.cell (p := ⟨w.heap.size + 1, 1, none⟩) (block_lt_of_cell b1)).trans b1; have hv2 := Lib.hid (BV.out.trans (hb2.mono BV.out.size)))
        | (go_at_call 15; (with_reducible refine (RB.out _ hv2.out).mono ?_); rintro e w3 ⟨rfl, hb3⟩))
      exact bodyPost_ret (v := .tuple #[.bool false, .int .i64 1]) (by simp [results, Tryd.results20, go_sem]) rfl ⟨rfl, hv2.out.trans (hb3.mono hv2.out.size)⟩
    | true =>
      have HR1 : Hid (R = (r.1 && !(once && twN r.2), 0)) := by show _ = _; rw [HR.out, if_pos ⟨rfl, rfl⟩]
      clear HR
      obtain ⟨R1, R2⟩ := R
      injection HR1.out with e1 e2
      subst e2
      have HR2 := Lib.hid e1
      clear e1 HR1
      obtain ⟨o, ml⟩ := r
      obtain ⟨t, ht⟩ : ∃ t, t = twN ml := ⟨_, rfl⟩
      have HTT := Lib.hid ht
      simp only at HR2
      rw [← ht] at HR2
      clear ht
      cases o <;> cases once <;> cases t
      all_goals
        obtain rfl := HR2.out
        go_enter Tryd.func20, Tryd.ntmps20
        go_wp2_with (go_at_call 15; (with_reducible refine (RA.out _ BV.out).mono ?_); rintro e w2 ⟨rfl, hb2⟩; have p0 := (hb2.cell (p := ⟨w.heap.size, 0, none⟩) (block_lt_of_cell a0)).trans a0; have p1 := (hb2.cell (p := ⟨w.heap.size, 1, none⟩) (block_lt_of_cell a1)).trans a1; have q0 := (hb2.cell (p := ⟨w.heap.size + 1, 0, none⟩) (block_lt_of_cell b0)).trans b0; have q1 := (hb2.cell (p := ⟨w.heap.size + 1, 1, none⟩) (block_lt_of_cell b1)).trans b1; have hv2 := Lib.hid (BV.out.trans (hb2.mono BV.out.size)))
        with_reducible refine (RB.out _ hv2.out).mono ?_
        rintro e w3 ⟨rfl, hb3⟩
        replace p0 := (hb3.cell (p := ⟨w.heap.size, 0, none⟩) (block_lt_of_cell p0)).trans p0
        replace p1 := (hb3.cell (p := ⟨w.heap.size, 1, none⟩) (block_lt_of_cell p1)).trans p1
        replace q0 := (hb3.cell (p := ⟨w.heap.size + 1, 0, none⟩) (block_lt_of_cell q0)).trans q0
        replace q1 := (hb3.cell (p := ⟨w.heap.size + 1, 1, none⟩) (block_lt_of_cell q1)).trans q1
        have hv3 := Lib.hid (hv2.out.trans (hb3.mono hv2.out.size))
        obtain ⟨bM, wA, hmA, mA, hbA, eA⟩ := mk_pm w3
        obtain ⟨bL, wB, hmB, mB, hbB, eB⟩ := mk_im wA
        obtain ⟨bR, wC, hmC, mC, hbC, eC⟩ := mk_im wB
        obtain ⟨PQ, HSS, BQ⟩ := made_pair a b ord mA.out hbA.out eA.out mB.out hbB.out eB.out mC.out hbC.out eC.out
        unfold pCells at PQ BQ
        have p1' := (BQ.out.cell (p := ⟨w.heap.size, 1, none⟩) (block_lt_of_cell p1)).trans p1
        have q1' := (BQ.out.cell (p := ⟨w.heap.size + 1, 1, none⟩) (block_lt_of_cell q1)).trans q1
        have TQ := Lib.hid (TW.out w3 ⟨wC.heap.size, bM, bL, bR⟩ _ hv3.out (by trivial) (by trivial) HSS.out BQ.out PQ.out)
        go_wp2_with (go_at_call 30; (with_reducible refine TQ.out.mono ?_); rintro e w5 ⟨rfl, hp5, hk5⟩; have c8 : w5.cell? ⟨wC.heap.size, 8, none⟩ = some (.bool (twN ml)) := bcell hp5.box 8; rw [← HTT.out] at c8; have hv5 := Lib.hid (hv3.out.trans ((hk5.below BQ.out HSS.out BQ.out.size).mono hv3.out.size)))
        first
          | exact bodyPost_ret (v := .tuple #[.bool true, .int .i64 0]) (by simp [results, Tryd.results20, go_sem]) rfl ⟨rfl, hv5.out⟩
          | exact bodyPost_ret (v := .tuple #[.bool false, .int .i64 0]) (by simp [results, Tryd.results20, go_sem]) rfl ⟨rfl, hv5.out⟩
end Go.Proofs.YtpgncjfmaeiaaaaDoor.Is
