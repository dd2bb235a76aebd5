import Derived.Test.YthmmhbeafbdglaaFrRNext
namespace Go.Proofs.Ythmmhbeafbdglaa
open Go.RowKit
/-- what stands in the block of the result -/
def ResR (w w2 : World) (cs : Array Value) : Prop := w2.heap[w.heap.size]? = some (.cells cs 37 (0, 0)) ∧ Below w.heap.size w w2
theorem ResR.first (w : World) (cs : Array Value) : ResR w (w.alloc (.cells cs 37)) cs := ⟨heap_alloc_new _ _, (Below.refl _ _).alloc (Nat.le_refl _) _⟩
theorem ResR.drewN {w w2 : World} {cs : Array Value} (h : ResR w w2 cs) (n : Nat) : ResR w (w2.drewN n) cs := ⟨h.1, below_drewN h.2 n⟩
theorem ResR.below {w w2 w3 : World} {cs : Array Value} (h : ResR w w2 cs) (hb : Below w2.heap.size w2 w3) : ResR w w3 cs := ⟨(hb.block _ (block_lt h.1)).trans h.1, h.2.trans (hb.mono h.2.size)⟩
theorem ResR.set {w w2 : World} {cs : Array Value} (h : ResR w w2 cs) (ds : Array Value) : ResR w (w2.setRow w.heap.size ds) ds := ⟨setRow_heap _ _ _ _ _ _ h.1, h.2.trans (setRow_below w2 (Nat.le_refl _) ds)⟩
theorem ResR.cell {w w2 : World} {cs : Array Value} (h : ResR w w2 cs) (i : Nat) : w2.cell? ⟨w.heap.size, i, none⟩ = cs[i]? := block_cell h.1 i
theorem wpList_append_bytes_n {w : World} {ops : Array Oper} {rest : List Oper} {o : Oper} {a : Act} {Q : Exit → Act → World → Prop} (hgd : o.guard = none) (s x : Operand) (ho : o.op = .call { callee := .builtin .append, args := #[s, x], argTypes := #[28, 28] })
    (base : Nat) (hs : a.eval s = .slice none 0 0) (A : Option Addr) (cap n : Nat) (d : List Nat) (hn : d.length = n) (hx : a.eval x = .slice A n cap) (g : BytesIn w A cap d)
    (hb : d.length ≤ 140737488355328) (hbase : base ≤ w.heap.size)
    (h : ∀ v' w', w'.ownsRow base 5 1 v' d.length (cellsOf d) → Below base w w' → wpList Try.prog ops Q rest (a.put o.dst v') w') : wpList Try.prog ops Q (o :: rest) a w := by
  subst hn
  exact wpList_append_bytes hgd s x ho base (.slice none 0 0) [] hs ⟨rfl, Or.inl ⟨rfl, rfl⟩⟩ A cap d hx g (by simpa using hb) hbase h
set_option maxHeartbeats 400000 in
theorem rnext_form (A : Option Addr) (cap : Nat) (bs : List Nat) (w : World) (g : BytesIn w A cap bs) (hm : bs.take 4 ≠ yrec.take bs.length) :
    Calls Try.prog 29 #[.slice A bs.length cap] w (NextPost bs w) := by
  have HE := Lib.hid (nextE_form hm)
  have HR := Lib.hid (ResR.first w #[.int .i64 0, .slice none 0 0])
  have HB : Hid (∀ W, Below w.heap.size w W → Calls Try.prog 46 #[.slice A bs.length cap] W fun e w' => e = .returned (.bool false) ∧ ∃ m, w' = W.drewN m) := fun W hW => (begins_any A cap bs W (g.below hW)).mono fun e w' ⟨he, h⟩ => ⟨by rw [he, decide_eq_false hm], h⟩
  clear hm
  go_enter Try.func29, Try.ntmps29
  go_wp2_with fail
  refine (HB.out _ HR.out.2).mono ?_
  rintro e w2 ⟨rfl, m, rfl⟩
  have HR2 := Lib.hid (HR.out.drewN m)
  generalize (w.alloc (Obj.cells #[.int .i64 0, .slice none 0 0] 37)).drewN m = w2 at HR2 ⊢
  clear HR HB
  go_wp2_with (refine wpList_store_row rfl 37 _ _ rfl w.heap.size #[.int .i64 0, .slice none 0 0] rfl rfl 37 _ HR2.out.1 (by kernel_rfl) rfl (fcells_one _ _ _ _) ?_)
  have HR3 := HR2.out.set #[.int .i64 0, .slice none 0 0]
  have q0 := HR3.cell 0
  have q1 := HR3.cell 1
  exact bodyPost_ret (v := NextErr 3) (by simp [results, Try.results29, go_sem, q0, q1, NextErr]) rfl (NextPost.err HR3.2 HE.out (by omega))
set_option maxHeartbeats 400000 in
theorem rnext_end (A : Option Addr) (cap : Nat) (bs : List Nat) (w : World) (g : BytesIn w A cap bs) (hm : bs.take 4 = yrec.take bs.length) (hl : (bs.length : Int) < 20) :
    Calls Try.prog 29 #[.slice A bs.length cap] w (NextPost bs w) := by
  have HE := Lib.hid (nextE_end hm (by omega))
  have HR := Lib.hid (ResR.first w #[.int .i64 0, .slice none 0 0])
  have HB : Hid (∀ W, Below w.heap.size w W → Calls Try.prog 46 #[.slice A bs.length cap] W fun e w' => e = .returned (.bool true) ∧ ∃ m, w' = W.drewN m) := fun W hW => (begins_any A cap bs W (g.below hW)).mono fun e w' ⟨he, h⟩ => ⟨by rw [he, decide_eq_true hm], h⟩
  clear hm
  go_enter Try.func29, Try.ntmps29
  go_wp2_with fail
  refine (HB.out _ HR.out.2).mono ?_
  rintro e w2 ⟨rfl, m, rfl⟩
  have HR2 := Lib.hid (HR.out.drewN m)
  generalize (w.alloc (Obj.cells #[.int .i64 0, .slice none 0 0] 37)).drewN m = w2 at HR2 ⊢
  clear HR HB
  go_wp2_with (refine wpList_store_row rfl 37 _ _ rfl w.heap.size #[.int .i64 0, .slice none 0 0] rfl rfl 37 _ HR2.out.1 (by kernel_rfl) rfl (fcells_one _ _ _ _) ?_)
  have HR3 := HR2.out.set #[.int .i64 0, .slice none 0 0]
  have q0 := HR3.cell 0
  have q1 := HR3.cell 1
  exact bodyPost_ret (v := NextErr 4) (by simp [results, Try.results29, go_sem, q0, q1, NextErr]) rfl (NextPost.err HR3.2 HE.out (by omega))
set_option maxHeartbeats 2000000 in
theorem rnext_core (A : Option Addr) (cap : Nat) (bs : List Nat) (w : World) (g : BytesIn w A cap bs) (hl : (20 : Int) ≤ (bs.length : Int)) (hlm : (bs.length : Int) ≤ 140737488355328) (hm : bs.take 4 = yrec.take bs.length)
    (N Q Z S : Nat) (HN : Hid (lenOf bs = N)) (HQ : Hid (seqOf bs = Q)) (HZ : Hid (sumOf bs = Z)) (HS : Hid (sumL [bodyOf bs, dataOf bs] = S)) (hN1 : N < 4294967296) (hQ1 : Q < 18446744073709551616) (hZ1 : Z < 4294967296) :
    Calls Try.prog 29 #[.slice A bs.length cap] w (NextPost bs w) := by
  have hS1 : S < 4294967296 := by rw [← HS.out]; exact sumL_lt _
  have HE5 : Hid (262144 < N → nextE bs = 5) := by
    intro h; unfold nextE; rw [HN.out, if_neg (by simpa using hm), if_neg (by omega), if_pos h]
  have HE1 : Hid (¬ 262144 < N → (Q < 1 ∨ 4611686018427387904 < Q) → nextE bs = 1) := by
    intro h h1; unfold nextE; rw [HN.out, HQ.out, if_neg (by simpa using hm), if_neg (by omega), if_neg h, if_pos h1]
  have HE4 : Hid (¬ 262144 < N → ¬ (Q < 1 ∨ 4611686018427387904 < Q) → bs.length - 20 < N → nextE bs = 4) := by
    intro h h1 h2; unfold nextE; rw [HN.out, HQ.out, if_neg (by simpa using hm), if_neg (by omega), if_neg h, if_neg h1, if_pos h2]
  have HE13 : Hid (¬ 262144 < N → ¬ (Q < 1 ∨ 4611686018427387904 < Q) → ¬ bs.length - 20 < N → S ≠ Z → nextE bs = 13) := by
    intro h h1 h2 h3; unfold nextE; rw [HN.out, HQ.out, HS.out, HZ.out, if_neg (by simpa using hm), if_neg (by omega), if_neg h, if_neg h1, if_neg h2, if_pos h3]
  have HE0 : Hid (¬ 262144 < N → ¬ (Q < 1 ∨ 4611686018427387904 < Q) → ¬ bs.length - 20 < N → S = Z → nextE bs = 0) := by
    intro h h1 h2 h3; unfold nextE; rw [HN.out, HQ.out, HS.out, HZ.out, if_neg (by simpa using hm), if_neg (by omega), if_neg h, if_neg h1, if_neg h2, if_neg (by simpa using h3)]
  have hcap : (bs.length : Int) ≤ (cap : Int) := by have := g.cap; omega
  have hs4 : ∀ W, (Instr.sliceAt 28 (.slice A bs.length cap) (some (.int .i64 4)) (some (.int .i64 8)) none).run Try.prog W = .ok (.slice (subA A 4 cap) 4 (cap - 4)) W := fun W => slice_mid A bs.length cap 4 8 (by omega) (by have := g.cap; omega) W
  have hs8 : ∀ W, (Instr.sliceAt 28 (.slice A bs.length cap) (some (.int .i64 8)) (some (.int .i64 16)) none).run Try.prog W = .ok (.slice (subA A 8 cap) 8 (cap - 8)) W := fun W => slice_mid A bs.length cap 8 16 (by omega) (by have := g.cap; omega) W
  have hs16 : ∀ W, (Instr.sliceAt 28 (.slice A bs.length cap) (some (.int .i64 16)) (some (.int .i64 20)) none).run Try.prog W = .ok (.slice (subA A 16 cap) 4 (cap - 16)) W := fun W => slice_mid A bs.length cap 16 20 (by omega) (by have := g.cap; omega) W
  have HR := Lib.hid (ResR.first w #[.int .i64 0, .slice none 0 0])
  have HB : Hid (∀ W, Below w.heap.size w W → Calls Try.prog 46 #[.slice A bs.length cap] W fun e w' => e = .returned (.bool true) ∧ ∃ m, w' = W.drewN m) := fun W hW => (begins_any A cap bs W (g.below hW)).mono fun e w' ⟨he, h⟩ => ⟨by rw [he, decide_eq_true hm], h⟩
  clear hm
  go_enter Try.func29, Try.ntmps29
  go_wp2_with fail
  refine (HB.out _ HR.out.2).mono ?_
  rintro e w1 ⟨rfl, m, rfl⟩
  have HR1 := Lib.hid (HR.out.drewN m)
  generalize (w.alloc (Obj.cells #[.int .i64 0, .slice none 0 0] 37)).drewN m = w1 at HR1 ⊢
  clear HR HB
  have G4 : Hid (∀ n, Calls Try.prog 47 #[.slice (subA A 4 cap) 4 (cap - 4)] (w1.drewN n) fun e w' => e = .returned (.int .u64 (N : Nat)) ∧ w1.drewN n = w') := by
    intro n
    obtain ⟨h1, h2⟩ := (g.below (HR1.out.drewN n).2).sub 4 4 (by omega)
    have h := value_any _ _ _ _ h1 (by omega)
    rw [h2, show valB ((bs.drop 4).take 4) = N from HN.out] at h
    exact h
  have G8 : Hid (∀ n, Calls Try.prog 47 #[.slice (subA A 8 cap) 8 (cap - 8)] (w1.drewN n) fun e w' => e = .returned (.int .u64 (Q : Nat)) ∧ w1.drewN n = w') := by
    intro n
    obtain ⟨h1, h2⟩ := (g.below (HR1.out.drewN n).2).sub 8 8 (by omega)
    have h := value_any _ _ _ _ h1 (by omega)
    rw [h2, show valB ((bs.drop 8).take 8) = Q from HQ.out] at h
    exact h
  go_wp2_with fail
  go_quiet ((first
    | (go_at_call 47; with_reducible exact quiet_left0 (G4.out _))
    | (go_at_call 47; with_reducible exact quiet_left0 (G8.out _))))
  have HR2 := Lib.hid (HR1.out.drewN nq)
  generalize w1.drewN nq = w2 at HR2 ⊢
  clear hs4 hs8 G4 G8 HR1
  by_cases c1 : 262144 < N
  · have HE := Lib.hid (HE5.out c1)
    have c1' : (262144 : Int) < (N : Int) := by omega
    clear HE5 HE1 HE4 HE13 HE0 c1
    go_wp2_with (refine wpList_store_row rfl 37 _ _ rfl w.heap.size #[.int .i64 0, .slice none 0 0] rfl rfl 37 _ HR2.out.1 (by kernel_rfl) rfl (fcells_one _ _ _ _) ?_)
    have HR4 := HR2.out.set #[.int .i64 0, .slice none 0 0]
    have q0 := HR4.cell 0
    have q1 := HR4.cell 1
    exact bodyPost_ret (v := NextErr 5) (by simp [results, Try.results29, go_sem, q0, q1, NextErr]) rfl (NextPost.err HR4.2 HE.out (by omega))
  have c1' : (N : Int) ≤ 262144 := by omega
  by_cases c2 : Q < 1 ∨ 4611686018427387904 < Q
  · have HE := Lib.hid (HE1.out c1 c2)
    clear HE5 HE1 HE4 HE13 HE0 c1
    rcases c2 with c2 | c2
    · have c2' : (Q : Int) < 1 := by omega
      clear c2
      go_wp2_with (refine wpList_store_row rfl 37 _ _ rfl w.heap.size #[.int .i64 0, .slice none 0 0] rfl rfl 37 _ HR2.out.1 (by kernel_rfl) rfl (fcells_one _ _ _ _) ?_)
      have HR4 := HR2.out.set #[.int .i64 0, .slice none 0 0]
      have q0 := HR4.cell 0
      have q1 := HR4.cell 1
      exact bodyPost_ret (v := NextErr 1) (by simp [results, Try.results29, go_sem, q0, q1, NextErr]) rfl (NextPost.err HR4.2 HE.out (by omega))
    · have c2' : (4611686018427387904 : Int) < (Q : Int) := by omega
      have c2'' : (1 : Int) ≤ (Q : Int) := by omega
      have c2d : decide ((Q : Int) < 1) = false := by simp; omega
      clear c2
      go_wp2_with (refine wpList_store_row rfl 37 _ _ rfl w.heap.size #[.int .i64 0, .slice none 0 0] rfl rfl 37 _ HR2.out.1 (by kernel_rfl) rfl (fcells_one _ _ _ _) ?_)
      have HR4 := HR2.out.set #[.int .i64 0, .slice none 0 0]
      have q0 := HR4.cell 0
      have q1 := HR4.cell 1
      exact bodyPost_ret (v := NextErr 1) (by simp [results, Try.results29, go_sem, q0, q1, NextErr]) rfl (NextPost.err HR4.2 HE.out (by omega))
  have c2' : (1 : Int) ≤ (Q : Int) := by omega
  have c2'' : (Q : Int) ≤ 4611686018427387904 := by omega
  have hwl : IntKind.u64.wrap ((bs.length : Int) - 20) = (bs.length : Int) - 20 := IntWalk.u64_in _ ⟨by omega, by omega⟩
  by_cases c3 : bs.length - 20 < N
  · have HE := Lib.hid (HE4.out c1 c2 c3)
    have c3' : (bs.length : Int) - 20 < (N : Int) := by omega
    clear HE5 HE1 HE4 HE13 HE0 c1 c2 c3
    go_wp2_with (refine wpList_store_row rfl 37 _ _ rfl w.heap.size #[.int .i64 0, .slice none 0 0] rfl rfl 37 _ HR2.out.1 (by kernel_rfl) rfl (fcells_one _ _ _ _) ?_)
    have HR4 := HR2.out.set #[.int .i64 0, .slice none 0 0]
    have q0 := HR4.cell 0
    have q1 := HR4.cell 1
    exact bodyPost_ret (v := NextErr 4) (by simp [results, Try.results29, go_sem, q0, q1, NextErr]) rfl (NextPost.err HR4.2 HE.out (by omega))
  have c3' : (N : Int) ≤ (bs.length : Int) - 20 := by omega
  have hsd : ∀ W, (Instr.sliceAt 28 (.slice A bs.length cap) (some (.int .i64 20)) (some (.int .i64 (20 + (N : Int)))) none).run Try.prog W = .ok (.slice (subA A 20 cap) N (cap - 20)) W := by
    intro W
    have h := slice_mid A bs.length cap 20 (20 + N) (by omega) (by have := g.cap; omega) W
    rw [show ((20 + N : Nat) : Int) = 20 + (N : Int) by omega, show 20 + N - 20 = N by omega] at h
    exact h
  have hsb : ∀ W, (Instr.sliceAt 28 (.slice A bs.length cap) (some (.int .i64 4)) (some (.int .i64 16)) none).run Try.prog W = .ok (.slice (subA A 4 cap) 12 (cap - 4)) W := fun W => slice_mid A bs.length cap 4 16 (by omega) (by have := g.cap; omega) W
  have HD : Hid (dataOf bs = (bs.drop 20).take N) := by show dataOf bs = _; unfold dataOf; rw [HN.out]
  obtain ⟨gb, hbl⟩ := g.sub 4 12 (by omega)
  obtain ⟨gd, hdl⟩ := g.sub 20 N (by omega)
  have RS : Hid (∀ W, W.heap[w2.heap.size]? = some (.cells #[.slice (subA A 4 cap) 12 (cap - 4), .slice (subA A 20 cap) N (cap - 20)] 28 (0, 0)) → Below w2.heap.size w2 W →
      Calls Try.prog 16 #[.slice (some ⟨w2.heap.size, 0, none⟩) 2 2] W fun e w' => e = .returned (.int .u32 (S : Nat)) ∧ W = w') := by
    intro W hW hbW
    have g1 := (gb.below HR2.out.2).below hbW
    have g2 := (gd.below HR2.out.2).below hbW
    have h := rsum_any (some ⟨w2.heap.size, 0, none⟩) 2 [⟨subA A 4 cap, cap - 4, (bs.drop 4).take 12⟩, ⟨subA A 20 cap, cap - 20, (bs.drop 20).take N⟩] W (by simp) (PartsAt.of_block (by rw [hW]; simp only [List.map_cons, List.map_nil, Part.val, hbl, hdl]; rfl) rfl) (by intro p hp; simp at hp; rcases hp with rfl | rfl; exact g1.part; exact g2.part)
    rw [show sumL ([⟨subA A 4 cap, cap - 4, (bs.drop 4).take 12⟩, ⟨subA A 20 cap, cap - 20, (bs.drop 20).take N⟩].map Part.bs) = S from by rw [← HS.out, HD.out]; rfl] at h
    exact h
  have G16 : Hid (∀ W, Below w2.heap.size w2 W → Calls Try.prog 47 #[.slice (subA A 16 cap) 4 (cap - 16)] W fun e w' => e = .returned (.int .u64 (Z : Nat)) ∧ W = w') := by
    intro W hW
    obtain ⟨h1, h2⟩ := ((g.below HR2.out.2).below hW).sub 16 4 (by omega)
    have h := value_any _ _ _ _ h1 (by omega)
    rw [h2, show valB ((bs.drop 16).take 4) = Z from HZ.out] at h
    exact h
  have GD := Lib.hid gd
  have HDL := Lib.hid hdl
  have hba : Below w2.heap.size w2 (w2.alloc (Obj.cells #[.slice (subA A 4 cap) 12 (cap - 4), .slice (subA A 20 cap) N (cap - 20)] 28)).drew := ((Below.refl _ _).alloc (Nat.le_refl _) _).drew
  have RSd := Lib.hid (RS.out (w2.alloc (Obj.cells #[.slice (subA A 4 cap) 12 (cap - 4), .slice (subA A 20 cap) N (cap - 20)] 28)).drew (heap_alloc_new w2 _) hba)
  have G16a := Lib.hid (G16.out _ (Below.refl _ w2).drew)
  have G16b := Lib.hid (G16.out _ hba)
  have HBA := Lib.hid hba
  clear hba RS G16
  have hwS : IntKind.u64.wrap (S : Int) = (S : Int) := IntWalk.u64_in _ ⟨by omega, by omega⟩
  clear gb hbl gd hdl
  have cc : S = Z ∧ ((S : Int) != (Z : Int)) = false ∨ S ≠ Z ∧ ((S : Int) != (Z : Int)) = true := by
    by_cases c4 : S = Z
    · exact Or.inl ⟨c4, by simp; omega⟩
    · exact Or.inr ⟨c4, by simp; omega⟩
  rcases cc with ⟨c4, c4'⟩ | ⟨c4, c4'⟩
  · have HE := Lib.hid (HE0.out c1 c2 (by omega) c4)
    clear HE5 HE1 HE4 HE13 HE0 c1 c2 c4 c3
    go_wp2_with fail
    go_region_held3 (fun w' => Below w2.heap.size w2 w')
      (first
        | go_keep
        | exact (Below.refl _ _).drew
        | exact HBA.out
        | exact ((Below.refl _ _).alloc (Nat.le_refl _) _))
      (first
        | (go_at_call 47; (with_reducible refine G16a.out.mono ?_); rintro e w' ⟨rfl, rfl⟩)
        | (go_at_call 47; (with_reducible refine G16b.out.mono ?_); rintro e w' ⟨rfl, rfl⟩)
        | (go_at_call 16; (with_reducible refine RSd.out.mono ?_); rintro e w' ⟨rfl, rfl⟩)
        | fail)
    all_goals
      have HR3 := Lib.hid (HR2.out.below HBA.out)
      generalize (w2.alloc (Obj.cells #[.slice (subA A 4 cap) 12 (cap - 4), .slice (subA A 20 cap) N (cap - 20)] 28)).drew = w3 at HR3 ⊢
      have GD3 := Lib.hid (GD.out.below HR3.out.2)
      clear hs16 hsd hsb RSd G16a G16b HBA
      go_wp2_with (at_builtin; refine wpList_append_bytes_n rfl _ _ rfl w3.heap.size rfl (subA A 20 cap) (cap - 20) N ((bs.drop 20).take N) HDL.out rfl GD3.out (by have := HDL.out; omega) (Nat.le_refl _) ?_)
      intro v4 w4 hown hb4
      rw [show min N (bs.length - 20) = N by omega] at hown
      have HR4 := Lib.hid (HR3.out.below hb4)
      have HO := Lib.hid hown
      have HLT : Hid (w.heap.size < w3.heap.size) := block_lt HR3.out.1
      clear hb4 hown
      obtain ⟨A', k', hv⟩ : ∃ A' k', v4 = .slice A' N k' := by
        rcases HO.out.2 with ⟨h1, h2⟩ | ⟨gg, k', _, h1, _⟩
        · exact ⟨none, 0, by rw [h1, h2]⟩
        · exact ⟨_, k', h1⟩
      rw [hv] at HO ⊢
      clear hv
      go_wp2_with (refine wpList_store_row rfl 37 _ _ rfl w.heap.size #[.int .i64 (Q : Nat), .slice A' N k'] rfl rfl 37 _ HR4.out.1 (by kernel_rfl) rfl (fcells_one _ _ _ _) ?_)
      have HR5 := HR4.out.set #[.int .i64 (Q : Nat), .slice A' N k']
      have q0 := HR5.cell 0
      have q1 := HR5.cell 1
      refine bodyPost_ret (v := .tuple #[.agg #[.int .i64 (Q : Nat), .slice A' N k'], .int .i64 (20 + N : Nat), .int .i64 0]) (by simp [results, Try.results29, go_sem, q0, q1]) rfl ⟨HR5.2, Or.inr ⟨HE.out, .slice A' N k', by rw [HQ.out, HN.out], ?_⟩⟩
      rw [HD.out, HDL.out]
      exact own_lower (own_setRow HO.out HLT.out _) (by have := HLT.out; omega)
  · have HE := Lib.hid (HE13.out c1 c2 (by omega) c4)
    clear HE5 HE1 HE4 HE13 HE0 c1 c2 c4 c3
    go_wp2_with fail
    go_region_held3 (fun w' => Below w2.heap.size w2 w')
      (first
        | go_keep
        | exact (Below.refl _ _).drew
        | exact HBA.out
        | exact ((Below.refl _ _).alloc (Nat.le_refl _) _))
      (first
        | (go_at_call 47; (with_reducible refine G16a.out.mono ?_); rintro e w' ⟨rfl, rfl⟩)
        | (go_at_call 47; (with_reducible refine G16b.out.mono ?_); rintro e w' ⟨rfl, rfl⟩)
        | (go_at_call 16; (with_reducible refine RSd.out.mono ?_); rintro e w' ⟨rfl, rfl⟩)
        | fail)
    all_goals
      have HR3 := Lib.hid (HR2.out.below HBA.out)
      generalize (w2.alloc (Obj.cells #[.slice (subA A 4 cap) 12 (cap - 4), .slice (subA A 20 cap) N (cap - 20)] 28)).drew = w3 at HR3 ⊢
      clear hs16 hsd hsb RSd G16a G16b HBA
      go_wp2_with (refine wpList_store_row rfl 37 _ _ rfl w.heap.size #[.int .i64 0, .slice none 0 0] rfl rfl 37 _ HR3.out.1 (by kernel_rfl) rfl (fcells_one _ _ _ _) ?_)
      have HR5 := HR3.out.set #[.int .i64 0, .slice none 0 0]
      have q0 := HR5.cell 0
      have q1 := HR5.cell 1
      exact bodyPost_ret (v := NextErr 13) (by simp [results, Try.results29, go_sem, q0, q1, NextErr]) rfl (NextPost.err HR5.2 HE.out (by omega))
/-- the reference's 'Next' at any bytes -/
theorem rnext_any (A : Option Addr) (cap : Nat) (bs : List Nat) (w : World) (g : BytesIn w A cap bs) (hlm : bs.length ≤ 140737488355328) :
    Calls Try.prog 29 #[.slice A bs.length cap] w (NextPost bs w) := by
  by_cases hm : bs.take 4 = yrec.take bs.length
  · by_cases hl : (bs.length : Int) < 20
    · exact rnext_end A cap bs w g hm hl
    · exact rnext_core A cap bs w g (by omega) (by omega) hm _ _ _ _ rfl rfl rfl rfl (four_lt g.bytes 4) (seqOf_lt g.bytes) (four_lt g.bytes 16)
  · exact rnext_form A cap bs w g hm
/-- its result in one form -/
theorem rnext_uni (A : Option Addr) (cap : Nat) (bs : List Nat) (w : World) (g : BytesIn w A cap bs) (hlm : bs.length ≤ 140737488355328) :
    Calls Try.prog 29 #[.slice A bs.length cap] w fun e w' => ∃ (sq : Nat) (A' : Option Addr) (L k n : Nat), e = .returned (.tuple #[.agg #[.int .i64 (sq : Nat), .slice A' L k], .int .i64 (n : Nat), .int .i64 (nextE bs : Nat)]) ∧ Below w.heap.size w w' ∧
      (nextE bs = 0 → sq = seqOf bs ∧ n = 20 + lenOf bs ∧ L = (dataOf bs).length ∧ w'.ownsRow w.heap.size 5 1 (.slice A' L k) (dataOf bs).length (cellsOf (dataOf bs))) := by
  refine (rnext_any A cap bs w g hlm).mono ?_
  rintro e w' ⟨hb, h⟩
  rcases h with ⟨h0, rfl⟩ | ⟨h0, v, rfl, ho⟩
  · exact ⟨0, none, 0, 0, 0, rfl, hb, fun h => absurd h h0⟩
  · have hd : AllBytes (dataOf bs) := (g.bytes.drop 20).take _
    obtain ⟨A', k, rfl, _⟩ := own_in ho hd
    exact ⟨seqOf bs, A', (dataOf bs).length, k, 20 + lenOf bs, by rw [h0]; rfl, hb, fun _ => ⟨rfl, rfl, rfl, ho⟩⟩
end Go.Proofs.Ythmmhbeafbdglaa
