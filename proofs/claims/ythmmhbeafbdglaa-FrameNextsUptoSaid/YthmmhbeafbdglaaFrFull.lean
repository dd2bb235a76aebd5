import Derived.Test.YthmmhbeafbdglaaFrClone
namespace Go.Proofs.Ythmmhbeafbdglaa
open Go.RowKit
/-- the parts of a frame's head -/
def lenOf (bs : List Nat) : Nat := valB ((bs.drop 4).take 4)
def seqOf (bs : List Nat) : Nat := valB ((bs.drop 8).take 8)
def sumOf (bs : List Nat) : Nat := valB ((bs.drop 16).take 4)
def dataOf (bs : List Nat) : List Nat := (bs.drop 20).take (lenOf bs)
def bodyOf (bs : List Nat) : List Nat := (bs.drop 4).take 12
/-- the error that 'Next' answers; 0: none -/
def nextE (bs : List Nat) : Nat :=
  if bs.take 4 ≠ yrec.take bs.length then 3 else if bs.length < 20 then 4 else if 262144 < lenOf bs then 5 else if seqOf bs < 1 ∨ 4611686018427387904 < seqOf bs then 1
  else if bs.length - 20 < lenOf bs then 4 else if sumL [bodyOf bs, dataOf bs] ≠ sumOf bs then 13 else 0
theorem quiet_left {P : Program} {f : FuncId} {args : Array Value} {w : World} {a n : Nat} {v : Value} (h : Calls P f args (w.drewN (a + n)) fun e w' => e = .returned v ∧ w.drewN (a + n) = w') :
    Calls P f args (w.drewN (a + n)) fun e w'' => e = .returned v ∧ ∃ m, w'' = w.drewN (a + m) := h.mono fun _ _ ⟨he, hm⟩ => ⟨he, n, hm.symm⟩
theorem own_setRow {w : World} {base g : Nat} {e : TypeId} {size n : Nat} {v : Value} {xs : List Value} (h : w.ownsRow base e size v n xs) (hg : g < base) (cs : Array Value) : (w.setRow g cs).ownsRow base e size v n xs := by
  refine ⟨h.1, ?_⟩
  rcases h.2 with h2 | ⟨b, cap, cur, hv, hb, hh, r⟩
  · exact Or.inl h2
  · exact Or.inr ⟨b, cap, cur, hv, hb, by simp only [World.setRow, Array.getElem?_modify]; rw [if_neg (by omega)]; exact hh, r⟩
theorem own_lower {w : World} {base B : Nat} {e : TypeId} {size n : Nat} {v : Value} {xs : List Value} (h : w.ownsRow base e size v n xs) (hB : B ≤ base) : w.ownsRow B e size v n xs := by
  refine ⟨h.1, ?_⟩
  rcases h.2 with h2 | ⟨b, cap, cur, hv, hb, r⟩
  · exact Or.inl h2
  · exact Or.inr ⟨b, cap, cur, hv, by omega, r⟩
theorem BytesIn.sub {w : World} {A : Option Addr} {cap : Nat} {bs : List Nat} (g : BytesIn w A cap bs) (l n : Nat) (h : l + n ≤ bs.length) : BytesIn w (subA A l cap) (cap - l) ((bs.drop l).take n) ∧ ((bs.drop l).take n).length = n := by
  have h1 := g.drop l
  have hl : ((bs.drop l).take n).length = n := by simp; omega
  refine ⟨⟨h1.bytes.take n, ?_, by rw [hl]; have := g.cap; omega, by rw [hl]; have := g.len; omega, h1.nil_⟩, hl⟩
  have h2 := h1.at_.take n (cap - l)
  rcases h1.at_ with h3 | ⟨b, off, h3, h4, h5⟩
  · left; rw [h3]; simp
  · refine Or.inr ⟨b, off, h3, h4, fun i hi => ?_⟩
    have hi' : i < n ∧ i < (bs.drop l).length := by simp at hi ⊢; omega
    rw [h5 i hi'.2]
    simp [List.getD_eq_getElem?_getD, hi'.1]

theorem quiet_left0 {P : Program} {f : FuncId} {args : Array Value} {w : World} {n : Nat} {v : Value} (h : Calls P f args (w.drewN n) fun e w' => e = .returned v ∧ w.drewN n = w') :
    Calls P f args (w.drewN n) fun e w'' => e = .returned v ∧ ∃ m, w'' = w.drewN m := h.mono fun _ _ ⟨he, hm⟩ => ⟨he, n, hm.symm⟩
/-- what 'Next' leaves -/
def NextErr (k : Nat) : Value := .tuple #[.agg #[.int .i64 0, .slice none 0 0], .int .i64 0, .int .i64 (k : Nat)]
def NextPost (bs : List Nat) (w : World) (e : Ending) (w' : World) : Prop :=
  Below w.heap.size w w' ∧ ((nextE bs ≠ 0 ∧ e = .returned (NextErr (nextE bs))) ∨
    (nextE bs = 0 ∧ ∃ v, e = .returned (.tuple #[.agg #[.int .i64 (seqOf bs : Nat), v], .int .i64 (20 + lenOf bs : Nat), .int .i64 0]) ∧ w'.ownsRow w.heap.size 5 1 v (dataOf bs).length (cellsOf (dataOf bs))))
theorem NextPost.err {bs : List Nat} {w w' : World} {k : Nat} (hb : Below w.heap.size w w') (hk : nextE bs = k) (h0 : k ≠ 0) : NextPost bs w (.returned (NextErr k)) w' := ⟨hb, Or.inl (by rw [hk]; exact ⟨h0, rfl⟩)⟩

set_option maxHeartbeats 2000000 in
theorem next_core (A : Option Addr) (cap : Nat) (bs : List Nat) (w : World) (g : BytesIn w A cap bs) (hl : (20 : Int) ≤ (bs.length : Int)) (hlm : (bs.length : Int) ≤ 140737488355328) (hm : bs.take 4 = yrec.take bs.length)
    (N Q Z S : Nat) (HN : Hid (lenOf bs = N)) (HQ : Hid (seqOf bs = Q)) (HZ : Hid (sumOf bs = Z)) (HS : Hid (sumL [bodyOf bs, dataOf bs] = S)) (hN1 : N < 4294967296) (hQ1 : Q < 18446744073709551616) (hZ1 : Z < 4294967296) :
    Calls Try.prog 26 #[.slice A bs.length cap] w (NextPost bs w) := by
  have hS1 : S < 4294967296 := by rw [← HS.out]; exact sumL_lt _
  have HE5 : Hid (262144 < N → nextE bs = 5) := by
    intro h; unfold nextE; rw [HN.out, if_neg (by simpa using hm), if_neg (by omega), if_pos h]
  have HE1 : Hid (¬ 262144 < N → (Q < 1 ∨ 4611686018427387904 < Q) → nextE bs = 1) := by
    intro h h1; unfold nextE; rw [HN.out, HQ.out, if_neg (by simpa using hm), if_neg (by omega), if_neg h, if_pos h1]
  have HE4 : Hid (¬ 262144 < N → ¬ (Q < 1 ∨ 4611686018427387904 < Q) → bs.length - 20 < N → nextE bs = 4) := by
    intro h h1 h2; unfold nextE; rw [HN.out, HQ.out, if_neg (by simpa using hm), if_neg (by omega), if_neg h, if_neg h1, if_pos h2]
  have HE13 : Hid (¬ 262144 < N → ¬ (Q < 1 ∨ 4611686018427387904 < Q) → ¬ bs.length - 20 < N → S ≠ Z → nextE bs = 13) := by
    intro h h1 h2 h3; unfold nextE; rw [HN.out, HQ.out, HS.out, HZ.out, if_neg (by simpa using hm), if_neg (by omega), if_neg h, if_neg h1, if_neg h2, if_pos h3]
  have HE0 : Hid (¬ 262144 < N → ¬ (Q < 1 ∨ 4611686018427387904 < Q) → ¬ bs.length - 20 < N → S = Z → nextE bs = 0) := by
    intro h h1 h2 h3; unfold nextE; rw [HN.out, HQ.out, HS.out, HZ.out, if_neg (by simpa using hm), if_neg (by omega), if_neg h, if_neg h1, if_neg h2, if_neg (by simpa using h3)]
  have hcap : (bs.length : Int) ≤ (cap : Int) := by have := g.cap; omega
  have hs1 : ∀ W : World, _ := fun W => slice_to A bs.length cap 4 (by have := g.cap; omega) W
  have hs2 : ∀ W : World, _ := fun W => yrec_slice 4 (by omega) W
  have hx : ∀ (o : Obj) (n : Nat), (convert 28 9 (.slice (subA A 0 cap) 4 cap)).run Try.prog ((w.alloc o).drewN n) = .ok (.string (strOf (bs.take 4))) ((w.alloc o).drewN n) := by
    intro o n
    have h := conv_bytes (subA A 0 cap) cap (bs.take 4) ((w.alloc o).drewN n) ((g.at_.take 4 cap).below (below_drewN ((Below.refl _ _).alloc (Nat.le_refl _) o) n))
    rw [show (bs.take 4).length = 4 from by simp; omega] at h
    exact h
  have hne : ((strOf (bs.take 4)).toList == (strOf (yrec.take 4)).toList) = true := by
    rw [hm, show yrec.take bs.length = yrec.take 4 from by rw [List.take_of_length_le (show yrec.length ≤ bs.length by show 4 ≤ _; omega)]; rfl]
    exact beq_self_eq_true _
  rw [show ((4 : Nat) : Int) = 4 from rfl] at hs1 hs2
  clear hm
  generalize strOf (bs.take 4) = s1 at hx hne
  generalize strOf (yrec.take 4) = s2 at hs2 hne
  have hs4 : ∀ W, (Instr.sliceAt 28 (.slice A bs.length cap) (some (.int .i64 4)) (some (.int .i64 8)) none).run Try.prog W = .ok (.slice (subA A 4 cap) 4 (cap - 4)) W := fun W => slice_mid A bs.length cap 4 8 (by omega) (by have := g.cap; omega) W
  have hs8 : ∀ W, (Instr.sliceAt 28 (.slice A bs.length cap) (some (.int .i64 8)) (some (.int .i64 16)) none).run Try.prog W = .ok (.slice (subA A 8 cap) 8 (cap - 8)) W := fun W => slice_mid A bs.length cap 8 16 (by omega) (by have := g.cap; omega) W
  have hs16 : ∀ W, (Instr.sliceAt 28 (.slice A bs.length cap) (some (.int .i64 16)) (some (.int .i64 20)) none).run Try.prog W = .ok (.slice (subA A 16 cap) 4 (cap - 16)) W := fun W => slice_mid A bs.length cap 16 20 (by omega) (by have := g.cap; omega) W
  have HR := Lib.hid (ResB.first w #[.int .i64 0, .slice none 0 0])
  go_enter Try.func26, Try.ntmps26
  go_wp2_with fail
  go_quiet (fail)
  have HR1 := Lib.hid (HR.out.drewN nq)
  generalize (w.alloc (Obj.cells #[.int .i64 0, .slice none 0 0] 41)).drewN nq = w1 at HR1 ⊢
  clear hx hs1 hs2 HR
  have G4 : Hid (∀ n, Calls Try.prog 43 #[.slice (subA A 4 cap) 4 (cap - 4)] (w1.drewN n) fun e w' => e = .returned (.int .u64 (N : Nat)) ∧ w1.drewN n = w') := by
    intro n
    obtain ⟨h1, h2⟩ := (g.below (HR1.out.drewN n).2).sub 4 4 (by omega)
    have h := get_any _ _ _ _ h1 (by omega)
    rw [h2, show valB ((bs.drop 4).take 4) = N from HN.out] at h
    exact h
  have G8 : Hid (∀ n, Calls Try.prog 43 #[.slice (subA A 8 cap) 8 (cap - 8)] (w1.drewN n) fun e w' => e = .returned (.int .u64 (Q : Nat)) ∧ w1.drewN n = w') := by
    intro n
    obtain ⟨h1, h2⟩ := (g.below (HR1.out.drewN n).2).sub 8 8 (by omega)
    have h := get_any _ _ _ _ h1 (by omega)
    rw [h2, show valB ((bs.drop 8).take 8) = Q from HQ.out] at h
    exact h
  have G16 : Hid (∀ n, Calls Try.prog 43 #[.slice (subA A 16 cap) 4 (cap - 16)] (w1.drewN n) fun e w' => e = .returned (.int .u64 (Z : Nat)) ∧ w1.drewN n = w') := by
    intro n
    obtain ⟨h1, h2⟩ := (g.below (HR1.out.drewN n).2).sub 16 4 (by omega)
    have h := get_any _ _ _ _ h1 (by omega)
    rw [h2, show valB ((bs.drop 16).take 4) = Z from HZ.out] at h
    exact h
  go_wp2_with fail
  go_quiet ((first
    | (go_at_call 43; with_reducible exact quiet_left0 (G4.out _))
    | (go_at_call 43; with_reducible exact quiet_left0 (G8.out _))
    | (go_at_call 43; with_reducible exact quiet_left0 (G16.out _))))
  have HR2 := Lib.hid (HR1.out.drewN nq)
  generalize w1.drewN nq = w2 at HR2 ⊢
  clear hs4 hs8 hs16 G4 G8 G16 HR1 hne
  by_cases c1 : 262144 < N
  · have HE := Lib.hid (HE5.out c1)
    have c1' : (262144 : Int) < (N : Int) := by omega
    clear HE5 HE1 HE4 HE13 HE0 c1
    go_wp2_with fail
    refine (none_any _ _).mono ?_
    rintro e w3 ⟨rfl, hb3⟩
    have HR3 := Lib.hid (HR2.out.below hb3)
    clear hb3
    go_wp2_with (refine wpList_store_row rfl 41 _ _ rfl w.heap.size #[.int .i64 0, .slice none 0 0] rfl rfl 41 _ HR3.out.1 (by kernel_rfl) rfl (fcells_one _ _ _ _) ?_)
    have HR4 := HR3.out.set #[.int .i64 0, .slice none 0 0]
    have q0 := HR4.cell 0
    have q1 := HR4.cell 1
    exact bodyPost_ret (v := NextErr 5) (by simp [results, Try.results26, go_sem, q0, q1, NextErr]) rfl (NextPost.err HR4.2 HE.out (by omega))
  have c1' : (N : Int) ≤ 262144 := by omega
  by_cases c2 : Q < 1 ∨ 4611686018427387904 < Q
  · have HE := Lib.hid (HE1.out c1 c2)
    obtain ⟨R, hR, hR2⟩ : ∃ R : Nat, IntKind.u64.wrap ((Q : Int) - 1) = (R : Int) ∧ (4611686018427387903 : Int) < (R : Int) := by
      rcases c2 with h | h
      · refine ⟨18446744073709551615, ?_, by omega⟩
        rw [show (Q : Int) - 1 = -1 by omega]; decide
      · exact ⟨Q - 1, by rw [IntWalk.u64_in _ ⟨by omega, by omega⟩]; omega, by omega⟩
    clear HE5 HE1 HE4 HE13 HE0 c1 c2
    go_wp2_with fail
    refine (none_any _ _).mono ?_
    rintro e w3 ⟨rfl, hb3⟩
    have HR3 := Lib.hid (HR2.out.below hb3)
    clear hb3
    go_wp2_with (refine wpList_store_row rfl 41 _ _ rfl w.heap.size #[.int .i64 0, .slice none 0 0] rfl rfl 41 _ HR3.out.1 (by kernel_rfl) rfl (fcells_one _ _ _ _) ?_)
    have HR4 := HR3.out.set #[.int .i64 0, .slice none 0 0]
    have q0 := HR4.cell 0
    have q1 := HR4.cell 1
    exact bodyPost_ret (v := NextErr 1) (by simp [results, Try.results26, go_sem, q0, q1, NextErr]) rfl (NextPost.err HR4.2 HE.out (by omega))
  have c2' : (1 : Int) ≤ (Q : Int) := by omega
  have c2'' : (Q : Int) ≤ 4611686018427387904 := by omega
  by_cases c3 : bs.length - 20 < N
  · have HE := Lib.hid (HE4.out c1 c2 c3)
    have c3' : (bs.length : Int) - 20 < (N : Int) := by omega
    clear HE5 HE1 HE4 HE13 HE0 c1 c2 c3
    go_wp2_with fail
    refine (none_any _ _).mono ?_
    rintro e w3 ⟨rfl, hb3⟩
    have HR3 := Lib.hid (HR2.out.below hb3)
    clear hb3
    go_wp2_with (refine wpList_store_row rfl 41 _ _ rfl w.heap.size #[.int .i64 0, .slice none 0 0] rfl rfl 41 _ HR3.out.1 (by kernel_rfl) rfl (fcells_one _ _ _ _) ?_)
    have HR4 := HR3.out.set #[.int .i64 0, .slice none 0 0]
    have q0 := HR4.cell 0
    have q1 := HR4.cell 1
    exact bodyPost_ret (v := NextErr 4) (by simp [results, Try.results26, go_sem, q0, q1, NextErr]) rfl (NextPost.err HR4.2 HE.out (by omega))
  have c3' : (N : Int) ≤ (bs.length : Int) - 20 := by omega
  have hsd : ∀ W, (Instr.sliceAt 28 (.slice A bs.length cap) (some (.int .i64 20)) (some (.int .i64 (20 + (N : Int)))) none).run Try.prog W = .ok (.slice (subA A 20 cap) N (cap - 20)) W := by
    intro W
    have h := slice_mid A bs.length cap 20 (20 + N) (by omega) (by have := g.cap; omega) W
    rw [show ((20 + N : Nat) : Int) = 20 + (N : Int) by omega, show 20 + N - 20 = N by omega] at h
    exact h
  have hsb : ∀ W, (Instr.sliceAt 28 (.slice A bs.length cap) (some (.int .i64 4)) (some (.int .i64 16)) none).run Try.prog W = .ok (.slice (subA A 4 cap) 12 (cap - 4)) W := fun W => slice_mid A bs.length cap 4 16 (by omega) (by have := g.cap; omega) W
  have HD : Hid (dataOf bs = (bs.drop 20).take N) := by show dataOf bs = _; unfold dataOf; rw [HN.out]
  obtain ⟨gb, hbl⟩ := g.sub 4 12 (by omega)
  obtain ⟨gd, hdl⟩ := g.sub 20 N (by omega)
  have GS : Hid (Calls Try.prog 15 #[.slice (some ⟨w2.heap.size, 0, none⟩) 2 2] (w2.alloc (.cells #[.slice (subA A 4 cap) 12 (cap - 4), .slice (subA A 20 cap) N (cap - 20)] 28)) fun e w' => e = .returned (.int .u32 (S : Nat)) ∧ Below w2.heap.size w2 w') := by
    have h := sum_two _ _ _ _ _ _ w2 (gb.below HR2.out.2) (gd.below HR2.out.2)
    rw [hbl, hdl, show sumL [(bs.drop 4).take 12, (bs.drop 20).take N] = S from by rw [← HD.out]; exact HS.out] at h
    exact h
  have GD := Lib.hid gd
  have HDL := Lib.hid hdl
  clear gb hbl gd hdl
  go_wp2_with fail
  refine GS.out.mono ?_
  rintro e w3 ⟨rfl, hb3⟩
  have HR3 := Lib.hid (HR2.out.below hb3)
  clear hb3
  by_cases c4 : S = Z
  · have HE := Lib.hid (HE0.out c1 c2 (by omega) c4)
    have c4' : ((S : Int) != (Z : Int)) = false := by simp; omega
    clear HE5 HE1 HE4 HE13 HE0 c1 c2 c4 c3 hsd hsb GS
    obtain ⟨b, off, hA⟩ : ∃ b off, A = some ⟨b, off, none⟩ := by
      rcases g.at_ with h | ⟨b, off, h, _⟩
      · rw [h] at hl; simp at hl
      · exact ⟨b, off, h⟩
    have hsub : subA A 20 cap = some (⟨b, off + 20, none⟩ : Addr) ∨ ∃ ad, subA A 20 cap = some ad := by right; rw [hA]; unfold subA; split <;> exact ⟨_, rfl⟩
    obtain ⟨ad, had⟩ : ∃ ad, subA A 20 cap = some ad := by rw [hA]; unfold subA; split <;> exact ⟨_, rfl⟩
    have HAD := Lib.hid had
    rw [had]
    clear hsub had hA
    have GC : Hid (Calls Try.prog 44 #[.slice (some ad) N (cap - 20)] w3 fun e w' => ∃ v, e = .returned v ∧ w'.ownsRow w3.heap.size 5 1 v N (cellsOf ((bs.drop 20).take N)) ∧ Below w3.heap.size w3 w') := by
      have h1 := GD.out.below HR3.out.2
      rw [HAD.out] at h1
      have h := clone_any ad (cap - 20) _ w3 h1 (by rw [HDL.out]; omega)
      rw [HDL.out] at h
      exact h
    go_wp2_with fail
    refine GC.out.mono ?_
    rintro e w4 ⟨v, rfl, hown, hb4⟩
    have HR4 := Lib.hid (HR3.out.below hb4)
    have HO := Lib.hid hown
    have HLT : Hid (w.heap.size < w3.heap.size) := block_lt HR3.out.1
    clear hb4 hown
    obtain ⟨A', k', hv⟩ : ∃ A' k', v = .slice A' N k' := by
      rcases HO.out.2 with ⟨h1, h2⟩ | ⟨gg, k', _, h1, _⟩
      · exact ⟨none, 0, by rw [h1, h2]⟩
      · exact ⟨_, k', h1⟩
    rw [hv] at HO ⊢
    clear hv
    go_wp2_with (refine wpList_store_row rfl 41 _ _ rfl w.heap.size #[.int .i64 (Q : Nat), .slice A' N k'] rfl rfl 41 _ HR4.out.1 (by kernel_rfl) rfl (fcells_one _ _ _ _) ?_)
    have HR5 := HR4.out.set #[.int .i64 (Q : Nat), .slice A' N k']
    have q0 := HR5.cell 0
    have q1 := HR5.cell 1
    have hdl : (dataOf bs).length = N := by rw [HD.out]; exact HDL.out
    refine bodyPost_ret (v := .tuple #[.agg #[.int .i64 (Q : Nat), .slice A' N k'], .int .i64 (20 + N : Nat), .int .i64 0]) (by simp [results, Try.results26, go_sem, q0, q1]) rfl ⟨HR5.2, Or.inr ⟨HE.out, .slice A' N k', by rw [HQ.out, HN.out], ?_⟩⟩
    rw [hdl, HD.out]
    exact own_lower (own_setRow HO.out HLT.out _) (by have := HLT.out; omega)
  · have HE := Lib.hid (HE13.out c1 c2 (by omega) c4)
    have c4' : ((S : Int) != (Z : Int)) = true := by simp; omega
    clear HE5 HE1 HE4 HE13 HE0 c1 c2 c4 c3 hsd hsb GS
    go_wp2_with fail
    refine (none_any _ _).mono ?_
    rintro e w4 ⟨rfl, hb3⟩
    have HR4 := Lib.hid (HR3.out.below hb3)
    clear hb3
    go_wp2_with (refine wpList_store_row rfl 41 _ _ rfl w.heap.size #[.int .i64 0, .slice none 0 0] rfl rfl 41 _ HR4.out.1 (by kernel_rfl) rfl (fcells_one _ _ _ _) ?_)
    have HR5 := HR4.out.set #[.int .i64 0, .slice none 0 0]
    have q0 := HR5.cell 0
    have q1 := HR5.cell 1
    exact bodyPost_ret (v := NextErr 13) (by simp [results, Try.results26, go_sem, q0, q1, NextErr]) rfl (NextPost.err HR5.2 HE.out (by omega))
end Go.Proofs.Ythmmhbeafbdglaa
