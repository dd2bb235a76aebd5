/- The document's side: how often each node is a kid, and whether it is a key. Conditions: kids are places; rows no longer than 10^6. -/
import Derived.Test.YtpgncjfmaeiaaaaDoorIsRNode
import Derived.Test.YtpgncjfmaeiaaaaDoorIsOrdB
set_option linter.unusedVariables false
namespace Go.Proofs.YtpgncjfmaeiaaaaDoor.Is
open Go.RowKit
def KeyTo (ns : List Nd) (i : Nat) (k : Int) : Prop := ∃ t s, t < i ∧ (ns.getD t nd0).kind = 6 ∧ 2 * s < (ns.getD t nd0).kids.length ∧ (ns.getD t nd0).kids.getD (2 * s) 0 = k
theorem KeyTo.succ (ns : List Nd) (i : Nat) (k : Int) : KeyTo ns (i + 1) k ↔ KeyTo ns i k ∨ ((ns.getD i nd0).kind = 6 ∧ ∃ s, 2 * s < (ns.getD i nd0).kids.length ∧ (ns.getD i nd0).kids.getD (2 * s) 0 = k) := by
  constructor
  · rintro ⟨t, s, ht, h1, h2, h3⟩
    rcases Nat.lt_succ_iff_lt_or_eq.1 ht with h | h
    · exact Or.inl ⟨t, s, h, h1, h2, h3⟩
    · subst h; exact Or.inr ⟨h1, s, h2, h3⟩
  · rintro (⟨t, s, ht, h1, h2, h3⟩ | ⟨h1, s, h2, h3⟩)
    · exact ⟨t, s, by omega, h1, h2, h3⟩
    · exact ⟨i, s, by omega, h1, h2, h3⟩
def FlgAt (w : World) (V n : Nat) (S : Int → Prop) : Prop := ∃ met : PrL, w.heap[V]? = some (.cells (flg n met).toArray 4 (0, 0)) ∧ ∀ k : Nat, (((k : Int), (k : Int)) ∈ met ↔ S (k : Int))
theorem FlgAt.below {w w' : World} {V n : Nat} {S : Int → Prop} (h : FlgAt w V n S) (hb : Below w.heap.size w w') : FlgAt w' V n S := by
  obtain ⟨met, h1, h2⟩ := h
  exact ⟨met, (hb.block _ (blt h1)).trans h1, h2⟩
theorem FlgAt.grown {w w' : World} {V n U : Nat} {S : Int → Prop} (h : FlgAt w V n S) (hb : w.grownBy w' (some U)) (hne : V ≠ U) : FlgAt w' V n S := by
  obtain ⟨met, h1, h2⟩ := h
  exact ⟨met, (hb.block _ (blt h1) (by intro e; injection e with e; exact hne e)).trans h1, h2⟩
theorem FlgAt.congr {w : World} {V n : Nat} {S T : Int → Prop} (h : FlgAt w V n S) (he : ∀ k : Nat, S (k : Int) ↔ T (k : Int)) : FlgAt w V n T := by
  obtain ⟨met, h1, h2⟩ := h
  exact ⟨met, h1, fun k => (h2 k).trans (he k)⟩
theorem FlgAt.lt {w : World} {V n : Nat} {S : Int → Prop} (h : FlgAt w V n S) : V < w.heap.size := by
  obtain ⟨met, h1, h2⟩ := h
  exact blt h1
theorem FlgAt.put {w : World} {V n k : Nat} {S : Int → Prop} (h : FlgAt w V n S) (hk : k < n) : FlgAt (w.setCell ⟨V, k, none⟩ (.bool true)) V n (fun x => S x ∨ x = (k : Int)) := by
  obtain ⟨met, h1, h2⟩ := h
  refine ⟨((k : Int), (k : Int)) :: met, by rw [block_set h1 k, flg_put hk], fun j => ?_⟩
  rw [List.mem_cons, h2 j]
  constructor
  · rintro (h | h)
    · injection h with h _; exact Or.inr h
    · exact Or.inl h
  · rintro (h | h)
    · exact Or.inr h
    · rw [h]; exact Or.inl rfl
theorem FlgAt.cell {w : World} {V n k : Nat} {S : Int → Prop} (h : FlgAt w V n S) (hk : k < n) : ∃ b, w.cell? ⟨V, k, none⟩ = some (.bool b) ∧ (b = true ↔ S (k : Int)) ∧ w.frozen? ⟨V, k, none⟩ = false := by
  obtain ⟨met, h1, h2⟩ := h
  refine ⟨decide (((k : Int), (k : Int)) ∈ met), ?_, by rw [decide_eq_true_iff]; exact h2 k, bfree h1 k⟩
  rw [bcell h1]
  simp [flg, hk]
def UsesPost (ns : List Nd) (w : World) (e : Ending) (w' : World) : Prop := ∃ U V : Nat, e = .returned (.tuple #[.slice (some ⟨U, 0, none⟩) ns.length ns.length, .slice (some ⟨V, 0, none⟩) ns.length ns.length]) ∧ Cnt w' U ns.length (usesTo (-1) ns ns.length) ∧ FlgAt w' V ns.length (KeyTo ns ns.length) ∧ Below w.heap.size w w'
set_option maxRecDepth 100000 in
set_option maxHeartbeats 6400000 in
theorem uses_any (g : Gv) (w : World) (G : GrIn w g) (hn4 : g.ns.length ≤ 4096) (hS : ∀ m ∈ g.ns, m.kids.length ≤ 1000000) (hK : ∀ m ∈ g.ns, ∀ k ∈ m.kids, 0 ≤ k ∧ k < g.ns.length) :
    Calls Tryd.prog 32 #[g.val] w (UsesPost g.ns w) := by
  have HG := Lib.hid G
  obtain ⟨A, c, ns, root⟩ := g
  unfold Gv.val UsesPost
  simp only at hS hK hn4 ⊢
  obtain ⟨n, hn⟩ : ∃ n, n = ns.length := ⟨_, rfl⟩
  have HN := Lib.hid hn
  rw [← hn] at hK hn4 ⊢
  have HS := Lib.hid hS
  have HK := Lib.hid hK
  have ULE : Hid (∀ i k, i ≤ n → usesTo (-1) ns i k ≤ 1 + i * 1000000) := fun i k hi => usesTo_le HS.out k i (by rw [← HN.out]; exact hi)
  have USI : Hid (∀ i k, i < n → usesTo (-1) ns (i + 1) k = usesTo (-1) ns i k + (ns.getD i nd0).kids.count (k : Int)) := fun i k hi => usesTo_succ (by rw [← HN.out]; exact hi) k
  have HB0 : Hid (Below w.heap.size w (w.alloc (.cells #[.slice A n c, .int .i64 root] 24))) := ext_world w _
  obtain ⟨U, w1, hmk, hc1, hb1, hU⟩ := mk_counts n (by omega) (w.alloc (.cells #[.slice A n c, .int .i64 root] 24))
  have g1 : w1.cell? ⟨w.heap.size, 0, none⟩ = some (.slice A n c) := (hb1.cell (p := ⟨w.heap.size, 0, none⟩) (by simp)).trans (bcell (heap_new w _ _) 0)
  obtain ⟨V, w2, hmk2, hf2, hb2, hV⟩ := mk_flags n (by omega) w1
  have g0 : w2.cell? ⟨w.heap.size, 0, none⟩ = some (.slice A n c) := (hb2.cell (p := ⟨w.heap.size, 0, none⟩) (block_lt_of_cell g1)).trans g1
  have HU : Hid (w.heap.size < U) := by show _ < _; rw [hU]; simp
  have HV : Hid (U < V) := by show _ < _; rw [hV]; exact hc1.lt
  have C2 : Hid (Cnt w2 U n (usesTo (-1) ns 0)) := (hc1.below hb2).eq (fun k hk => by
    have : ¬ ((k : Int) = -1) := by omega
    simp [usesTo, this])
  have F2 : Hid (FlgAt w2 V n (KeyTo ns 0)) := ⟨[], hf2, fun k => ⟨fun h => absurd h List.not_mem_nil, fun ⟨t, s, h, _⟩ => absurd h (Nat.not_lt_zero _)⟩⟩
  have B2 : Hid (Below w.heap.size w w2) := (HB0.out.trans (hb1.mono HB0.out.size)).trans (hb2.mono (HB0.out.trans (hb1.mono HB0.out.size)).size)
  clear G hn hS hK hc1 hb1 hU hf2 hb2 hV HB0
  go_enter Tryd.func32, Tryd.ntmps32
  go_wp2_with fail
  clear g1 hmk hmk2
  go_loopw [6] (fun v wr => ∃ i : Nat, i ≤ n ∧ v = .int .i64 (i : Int) ∧ Hid (Below w.heap.size w wr) ∧ Hid (Cnt wr U n (usesTo (-1) ns i)) ∧ Hid (FlgAt wr V n (KeyTo ns i)) ∧ wr.cell? ⟨w.heap.size, 0, none⟩ = some (.slice A n c)) (fun v _ => n - (intOf v).toNat)
  case atStart => exact ⟨0, Nat.zero_le _, rfl, B2.out, C2.out, F2.out, g0⟩
  case round =>
    clear g0 B2 C2 F2
    obtain ⟨i, hi, rfl, hb, hc, hf, g0⟩ := hrel
    by_cases hlt : i < n
    · have hltI : (i : Int) < (n : Int) := by omega
      obtain ⟨bg, og, hA, hbl, n0, n1, n2⟩ := (HG.out.below hb.out).get i (by show i < ns.length; rw [← HN.out]; exact hlt)
      have hmem : ns.getD i nd0 ∈ ns := getD_memD (by rw [← HN.out]; exact hlt)
      have MI : Hid (KidsAt w (ns.getD i nd0)) := HG.out.kids _ hmem
      have HSI := Lib.hid (HS.out _ hmem)
      have KBI := Lib.hid (HK.out _ hmem)
      have US1 : Hid (∀ k, usesTo (-1) ns (i + 1) k = usesTo (-1) ns i k + (ns.getD i nd0).kids.count (k : Int)) := fun k => USI.out i k hlt
      have UL1 : Hid (∀ k, usesTo (-1) ns i k ≤ 1 + i * 1000000) := fun k => ULE.out i k hi
      have KT1 := Lib.hid (KeyTo.succ ns i)
      clear hmem
      simp only at hA n0 n1 n2
      generalize ns.getD i nd0 = nd at n0 n1 n2 MI HSI KBI US1 KT1
      obtain ⟨kind, txt, kids, ka, kc⟩ := nd
      simp only at n0 n1 n2 HSI KBI US1 KT1
      obtain ⟨KL, hKL⟩ : ∃ KL, KL = kids.length := ⟨_, rfl⟩
      rw [← hKL] at n2 HSI
      have HKL := Lib.hid hKL
      have hKB := HSI.out
      have HAA := Lib.hid hA
      rw [hA] at g0
      clear hKL hA
      have HR0 := Lib.hid (Kept.first wr 38 #[.int .i64 0, .string ⟨#[]⟩, .slice none 0 0])
      have HR1 := Lib.hid (HR0.out.set #[.int .i64 kind, .string txt, .slice ka KL kc])
      have r0 := HR1.out.cell 0
      have r2 := HR1.out.cell 2
      have hone : (#[Value.int .i64 kind, Value.string txt, Value.slice ka KL kc]).all (·.oneCell') = true := by simp [Value.oneCell']
      have g4 : ((wr.alloc (.cells #[.int .i64 0, .string ⟨#[]⟩, .slice none 0 0] 38)).setRow wr.heap.size #[.int .i64 kind, .string txt, .slice ka KL kc]).cell? ⟨w.heap.size, 0, none⟩ = some (.slice (some ⟨bg, og, none⟩) n c) := (HR1.out.2.cell (p := ⟨w.heap.size, 0, none⟩) (block_lt_of_cell g0)).trans g0
      have B4 : Hid (Below w.heap.size w ((wr.alloc (.cells #[.int .i64 0, .string ⟨#[]⟩, .slice none 0 0] 38)).setRow wr.heap.size #[.int .i64 kind, .string txt, .slice ka KL kc])) := hb.out.trans (HR1.out.2.mono hb.out.size)
      have C4 : Hid (Cnt ((wr.alloc (.cells #[.int .i64 0, .string ⟨#[]⟩, .slice none 0 0] 38)).setRow wr.heap.size #[.int .i64 kind, .string txt, .slice ka KL kc]) U n (usesTo (-1) ns i)) := hc.out.below HR1.out.2
      have F4 : Hid (FlgAt ((wr.alloc (.cells #[.int .i64 0, .string ⟨#[]⟩, .slice none 0 0] 38)).setRow wr.heap.size #[.int .i64 kind, .string txt, .slice ka KL kc]) V n (KeyTo ns i)) := hf.out.below HR1.out.2
      have HNB : Hid (V < wr.heap.size) := hf.out.lt
      go_wp2_with (refine wpList_store_row rfl 38 _ _ rfl wr.heap.size #[.int .i64 kind, .string txt, .slice ka KL kc] rfl rfl 38 _ HR0.out.1 (by kernel_rfl) rfl hone ?_)
      generalize ((wr.alloc (.cells #[.int .i64 0, .string ⟨#[]⟩, .slice none 0 0] 38)).setRow wr.heap.size #[.int .i64 kind, .string txt, .slice ka KL kc]) = w4 at HR1 r0 r2 g4 B4 C4 F4 ⊢
      generalize wr.heap.size = nb at HR0 HR1 r0 r2 HNB ⊢
      clear g0 n0 n1 n2 hb hc hf HR0 HR1
      go_loopw [8] (fun v wq => ∃ j : Nat, j ≤ KL ∧ v = .int .i64 (j : Int) ∧ Hid (Below w.heap.size w wq) ∧ Hid (Cnt wq U n (fun k => usesTo (-1) ns i k + (kids.take j).count (k : Int))) ∧ Hid (FlgAt wq V n (fun k => KeyTo ns i k ∨ (kind = 6 ∧ ∃ s, 2 * s < j ∧ kids.getD (2 * s) 0 = k))) ∧ wq.cell? ⟨w.heap.size, 0, none⟩ = some (.slice (some ⟨bg, og, none⟩) n c) ∧ wq.cell? ⟨nb, 0, none⟩ = some (.int .i64 kind) ∧ wq.cell? ⟨nb, 2, none⟩ = some (.slice ka KL kc)) (fun v _ => KL - (intOf v).toNat)
      case atStart => exact ⟨0, Nat.zero_le _, rfl, B4.out, C4.out.eq (fun k hk => by simp), F4.out.congr (fun k => ⟨Or.inl, fun h => h.elim id fun ⟨_, s, h, _⟩ => absurd h (Nat.not_lt_zero _)⟩), g4, r0, r2⟩
      case round =>
        clear B4 C4 F4 g4 r0 r2
        obtain ⟨j, hj, rfl, hbq, hcq, hfq, g0, m0, m2⟩ := hrel
        by_cases hjl : j < KL
        · have hjI : (j : Int) < (KL : Int) := by omega
          obtain ⟨bk, ok, hka, hbk, hkc⟩ := MI.out.get j (by show j < kids.length; rw [← HKL.out]; exact hjl)
          replace hkc := (hbq.out.cell (p := ⟨bk, _, none⟩) hbk).trans hkc
          have HMEM := KBI.out (kids.getD j 0) (getD_mem (by rw [← HKL.out]; exact hjl))
          have CT1 : Hid (∀ k : Int, (kids.take (j + 1)).count k = (kids.take j).count k + if kids.getD j 0 = k then 1 else 0) := fun k => count_take (by rw [← HKL.out]; exact hjl) k
          have KJE : Hid (j % 2 = 0 → ∀ k : Int, (∃ s, 2 * s < j + 1 ∧ kids.getD (2 * s) 0 = k) ↔ (∃ s, 2 * s < j ∧ kids.getD (2 * s) 0 = k) ∨ k = kids.getD j 0) := fun he k => by
            constructor
            · rintro ⟨s, h1, h2⟩
              by_cases h3 : 2 * s = j
              · rw [h3] at h2; exact Or.inr h2.symm
              · exact Or.inl ⟨s, by omega, h2⟩
            · rintro (⟨s, h1, h2⟩ | h)
              · exact ⟨s, by omega, h2⟩
              · exact ⟨j / 2, by omega, by rw [show 2 * (j / 2) = j by omega]; exact h.symm⟩
          have KJO : Hid (j % 2 ≠ 0 → ∀ k : Int, (∃ s, 2 * s < j + 1 ∧ kids.getD (2 * s) 0 = k) ↔ ∃ s, 2 * s < j ∧ kids.getD (2 * s) 0 = k) := fun he k => by
            constructor
            · rintro ⟨s, h1, h2⟩
              exact ⟨s, by omega, h2⟩
            · rintro ⟨s, h1, h2⟩
              exact ⟨s, by omega, h2⟩
          simp only at hka hkc
          generalize kids.getD j 0 = x at hkc HMEM CT1 KJE
          obtain ⟨xn, rfl⟩ : ∃ xn : Nat, x = (xn : Int) := ⟨x.toNat, by omega⟩
          have hxn : xn < n := by omega
          have hxI : (xn : Int) < (n : Int) := by omega
          have CNB : Hid ((kids.take j).count (xn : Int) ≤ 1000000) := Nat.le_trans List.count_le_length (by rw [List.length_take]; omega)
          have ULX : Hid (usesTo (-1) ns i xn ≤ 5000000000) := Nat.le_trans (UL1.out xn) (by omega)
          have hux := hcq.out.cell hxn
          have huf := hcq.out.free xn
          obtain ⟨T, hT⟩ : ∃ T, T = usesTo (-1) ns i xn + (kids.take j).count (xn : Int) := ⟨_, rfl⟩
          have HT9 : Hid (T ≤ 6000000000) := by show _ ≤ _; have h8 := CNB.out; have h9 := ULX.out; omega
          have hT9 := HT9.out
          have C6 : Hid (Cnt (wr.setCell ⟨U, xn, none⟩ (.int .i64 ((T : Int) + 1))) U n (fun k => usesTo (-1) ns i k + (kids.take (j + 1)).count (k : Int))) :=
            hcq.out.bump hxn (by rw [CT1.out, if_pos rfl, hT]; push_cast; omega) (fun k hk hne => by rw [CT1.out, if_neg (by omega)]; omega)
          have B6 : Hid (Below w.heap.size w (wr.setCell ⟨U, xn, none⟩ (.int .i64 ((T : Int) + 1)))) := setCell_below hbq.out (Nat.le_of_lt HU.out) hbq.out.size
          have F6 : Hid (FlgAt (wr.setCell ⟨U, xn, none⟩ (.int .i64 ((T : Int) + 1))) V n (fun k => KeyTo ns i k ∨ (kind = 6 ∧ ∃ s, 2 * s < j ∧ kids.getD (2 * s) 0 = k))) := hfq.out.grown (setCell_grown _ _ _ _) (by have := HV.out; omega)
          have g6 : (wr.setCell ⟨U, xn, none⟩ (.int .i64 ((T : Int) + 1))).cell? ⟨w.heap.size, 0, none⟩ = some (.slice (some ⟨bg, og, none⟩) n c) := setCell_cell g0 (by have h9 := HU.out; show w.heap.size ≠ U; omega)
          have p0 : (wr.setCell ⟨U, xn, none⟩ (.int .i64 ((T : Int) + 1))).cell? ⟨nb, 0, none⟩ = some (.int .i64 kind) := setCell_cell m0 (by have h9 := HNB.out; have := HV.out; show nb ≠ U; omega)
          have p2 : (wr.setCell ⟨U, xn, none⟩ (.int .i64 ((T : Int) + 1))).cell? ⟨nb, 2, none⟩ = some (.slice ka KL kc) := setCell_cell m2 (by have h9 := HNB.out; have := HV.out; show nb ≠ U; omega)
          have hkU : (wr.setCell ⟨U, xn, none⟩ (.int .i64 ((T : Int) + 1))).cell? ⟨bk, ok + j, none⟩ = some (.int .i64 (xn : Int)) := setCell_cell hkc (by have h9 := HU.out; show bk ≠ U; omega)
          rw [← hT] at hux
          clear hT CT1 hcq hbq hfq
          subst hka
          by_cases h6 : kind = 6
          · have h6I : (kind == 6) = true := by rw [beq_iff_eq]; exact h6
            by_cases he : j % 2 = 0
            · obtain ⟨b0, vc, _, vf⟩ := F6.out.cell hxn
              have htm : ((j : Int)).tmod 2 = 0 := by rw [Int.tmod_eq_emod_of_nonneg (by omega)]; omega
              have F7 : Hid (FlgAt ((wr.setCell ⟨U, xn, none⟩ (.int .i64 ((T : Int) + 1))).setCell ⟨V, xn, none⟩ (.bool true)) V n (fun k => KeyTo ns i k ∨ (kind = 6 ∧ ∃ s, 2 * s < j + 1 ∧ kids.getD (2 * s) 0 = k))) :=
                (F6.out.put hxn).congr (fun k => by
                  have h9 := KJE.out he (k : Int)
                  constructor
                  · rintro ((h | ⟨h, h'⟩) | h)
                    · exact Or.inl h
                    · exact Or.inr ⟨h, h9.2 (Or.inl h')⟩
                    · exact Or.inr ⟨h6, h9.2 (Or.inr h)⟩
                  · rintro (h | ⟨h, h'⟩)
                    · exact Or.inl (Or.inl h)
                    · rcases h9.1 h' with h' | h'
                      · exact Or.inl (Or.inr ⟨h, h'⟩)
                      · exact Or.inr h')
              have C7 : Hid (Cnt ((wr.setCell ⟨U, xn, none⟩ (.int .i64 ((T : Int) + 1))).setCell ⟨V, xn, none⟩ (.bool true)) U n (fun k => usesTo (-1) ns i k + (kids.take (j + 1)).count (k : Int))) :=
                ((setCell_grown _ V xn (.bool true)).block U C6.out.lt (by intro e; injection e with e; have := HV.out; omega)).trans C6.out
              have B7 : Hid (Below w.heap.size w ((wr.setCell ⟨U, xn, none⟩ (.int .i64 ((T : Int) + 1))).setCell ⟨V, xn, none⟩ (.bool true))) := setCell_below B6.out (by have := HU.out; have := HV.out; omega) B6.out.size
              have g7 : ((wr.setCell ⟨U, xn, none⟩ (.int .i64 ((T : Int) + 1))).setCell ⟨V, xn, none⟩ (.bool true)).cell? ⟨w.heap.size, 0, none⟩ = some (.slice (some ⟨bg, og, none⟩) n c) := setCell_cell g6 (by have := HU.out; have := HV.out; show w.heap.size ≠ V; omega)
              have q0 : ((wr.setCell ⟨U, xn, none⟩ (.int .i64 ((T : Int) + 1))).setCell ⟨V, xn, none⟩ (.bool true)).cell? ⟨nb, 0, none⟩ = some (.int .i64 kind) := setCell_cell p0 (by have h9 := HNB.out; show nb ≠ V; omega)
              have q2 : ((wr.setCell ⟨U, xn, none⟩ (.int .i64 ((T : Int) + 1))).setCell ⟨V, xn, none⟩ (.bool true)).cell? ⟨nb, 2, none⟩ = some (.slice (some ⟨bk, ok, none⟩) KL kc) := setCell_cell p2 (by have h9 := HNB.out; show nb ≠ V; omega)
              go_wp2_with fail
              go_roundw
              case rel => exact ⟨j + 1, by omega, by go_num, B7.out, C7.out, F7.out, g7, q0, q2⟩
              case measure => simp [intOf]; omega
            · have htm : ((j : Int)).tmod 2 = 1 := by rw [Int.tmod_eq_emod_of_nonneg (by omega)]; omega
              have F7 : Hid (FlgAt (wr.setCell ⟨U, xn, none⟩ (.int .i64 ((T : Int) + 1))) V n (fun k => KeyTo ns i k ∨ (kind = 6 ∧ ∃ s, 2 * s < j + 1 ∧ kids.getD (2 * s) 0 = k))) := F6.out.congr (fun k => by rw [KJO.out he (k : Int)])
              go_wp2_with fail
              go_roundw
              case rel => exact ⟨j + 1, by omega, by go_num, B6.out, C6.out, F7.out, g6, p0, p2⟩
              case measure => simp [intOf]; omega
          · have h6I : (kind == 6) = false := by rw [beq_eq_false_iff_ne]; exact h6
            have F7 : Hid (FlgAt (wr.setCell ⟨U, xn, none⟩ (.int .i64 ((T : Int) + 1))) V n (fun k => KeyTo ns i k ∨ (kind = 6 ∧ ∃ s, 2 * s < j + 1 ∧ kids.getD (2 * s) 0 = k))) := F6.out.congr (fun k => ⟨fun h => h.elim Or.inl fun h => absurd h.1 h6, fun h => h.elim Or.inl fun h => absurd h.1 h6⟩)
            clear h6
            go_wp2_with fail
            go_roundw
            case rel => exact ⟨j + 1, by omega, by go_num, B6.out, C6.out, F7.out, g6, p0, p2⟩
            case measure => simp [intOf]; omega
        · obtain rfl : j = KL := by omega
          have hjI : ¬ ((j : Int) < (j : Int)) := by omega
          have C7 : Hid (Cnt wr U n (usesTo (-1) ns (i + 1))) := hcq.out.eq (fun k hk => by rw [US1.out, HKL.out, List.take_length])
          have F7 : Hid (FlgAt wr V n (KeyTo ns (i + 1))) := hfq.out.congr (fun k => by rw [KT1.out, HKL.out])
          go_wp2_with fail
          go_roundw
          case rel => exact ⟨i + 1, by omega, by go_num, hbq.out, C7.out, F7.out, by rw [HAA.out]; exact g0⟩
          case measure => simp [intOf]; omega
    · obtain rfl : i = n := by omega
      have hltI : ¬ ((i : Int) < (i : Int)) := by omega
      go_wp2_with fail
      exact bodyPost_ret (v := .tuple #[.slice (some ⟨U, 0, none⟩) i i, .slice (some ⟨V, 0, none⟩) i i]) (by simp [results, Tryd.results32, go_sem]) rfl ⟨U, V, rfl, hc.out, hf.out, hb.out⟩
end Go.Proofs.YtpgncjfmaeiaaaaDoor.Is
