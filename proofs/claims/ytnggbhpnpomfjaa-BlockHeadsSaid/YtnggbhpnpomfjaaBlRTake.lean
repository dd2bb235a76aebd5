/- Walk: the document's Take: a block's text, or its fault. Conditions: the rows are no more than 10000, their bytes no more than 10^8. -/
import Derived.Test.YtnggbhpnpomfjaaBlWide
set_option linter.unusedVariables false
namespace Go.Proofs.Ytnggbhpnpomfjaa
open Go.RowKit
def catL (L : List (List UInt8)) : Nat → List UInt8
  | 0 => []
  | k + 1 => catL L k ++ (if k = 0 then [] else [10]) ++ L.getD k []
theorem catL_join (x : List UInt8) (r : List (List UInt8)) : ∀ k, k ≤ r.length → catL (x :: r) (k + 1) = x ++ Lib.joinTail [10] (r.take k)
  | 0, _ => by simp [catL, Lib.joinTail]
  | k + 1, h => by
    have ih := catL_join x r k (by omega)
    have hy : r[k]? = some (r.getD k []) := by rw [List.getD_eq_getElem?_getD, List.getElem?_eq_getElem (by omega)]; rfl
    rw [Lib.joinTail_take_succ [10] r k _ hy]
    have e : catL (x :: r) (k + 1 + 1) = catL (x :: r) (k + 1) ++ [10] ++ r.getD k [] := by
      show catL (x :: r) (k + 1) ++ (if k + 1 = 0 then [] else [10]) ++ (x :: r).getD (k + 1) [] = _
      rw [if_neg (by omega)]
      simp
    rw [e, ih]
    simp only [List.append_assoc]
theorem catL_all (L : List (List UInt8)) : catL L L.length = joinT L := by
  cases L with
  | nil => rfl
  | cons x r =>
    show catL (x :: r) (r.length + 1) = _
    rw [catL_join x r r.length (Nat.le_refl _), List.take_length]
    unfold joinT
    rw [Lib.join_cons]
theorem catL_le (L : List (List UInt8)) : ∀ k, k ≤ L.length → (catL L k).length ≤ bulkL (L.take k) + k
  | 0, _ => by simp [catL, bulkL]
  | k + 1, h => by
    have ih := catL_le L k (by omega)
    have hb := bulk_take L k (by omega)
    simp only [catL, List.length_append]
    by_cases k0 : k = 0
    · rw [if_pos k0, List.length_nil]; omega
    · rw [if_neg k0]; simp only [List.length_cons, List.length_nil]; omega
set_option maxRecDepth 100000 in
set_option maxHeartbeats 3200000 in
theorem rtake_any (A : Option Addr) (c : Nat) (rs : List Rw) (col : Int) (folded : Bool) (chomp : Int) (w : World) (g : RowsIn w A c rs) (hl : rs.length ≤ 10000) (hbk : bulkT rs ≤ 100000000) :
    Calls Try.prog 16 #[.slice A rs.length c, .int .i64 col, .agg #[.bool folded, .int .i64 chomp]] w fun e w' => e = .returned (takeV rs col folded chomp) ∧ Below w.heap.size w w' := by
  obtain ⟨W1, hW1⟩ : ∃ W, W = (w.alloc (.cells #[.bool folded, .int .i64 chomp] 28)).alloc (.cells #[.int .i64 0, .int .i64 0] 32) := ⟨_, rfl⟩
  have hs1 : W1.heap.size = w.heap.size + 2 := by rw [hW1]; simp
  have b0 : W1.heap[w.heap.size]? = some (.cells #[.bool folded, .int .i64 chomp] 28 (0, 0)) := by rw [hW1]; exact two_first _ _ _ _
  have b1 : W1.heap[w.heap.size + 1]? = some (.cells #[.int .i64 0, .int .i64 0] 32 (0, 0)) := by
    rw [hW1]
    have := heap_alloc_new (w.alloc (.cells #[.bool folded, .int .i64 chomp] 28)) (.cells #[.int .i64 0, .int .i64 0] 32)
    simpa using this
  have hb1 : Below w.heap.size w W1 := by rw [hW1]; exact ((Below.refl _ _).alloc (Nat.le_refl _) _).alloc (by simp) _
  have LN := rlines_any A c rs col W1 (g.below hb1) hl hbk
  unfold LinesPost at LN
  obtain ⟨W1s, hW1s⟩ : ∃ n, W1.heap.size = n := ⟨_, rfl⟩
  have B0 := Lib.hid b0
  have B1 := Lib.hid b1
  have HB1 := Lib.hid hb1
  have HS1 := Lib.hid hs1
  have LNH := Lib.hid LN
  have E1 := Lib.hid hW1
  have hcl := cntT_le rs col
  clear LN b0 b1 hb1 hs1 g hW1s
  have LN2 : Hid (Calls Try.prog 30 #[.slice A rs.length c, .int .i64 col] ((w.alloc (.cells #[.bool folded, .int .i64 chomp] 28)).alloc (.cells #[.int .i64 0, .int .i64 0] 32)) fun e w' => LinesPost rs col W1 e w') := by
    rw [← hW1]; exact LNH.out
  clear LNH hW1
  go_enter Try.func16, Try.ntmps16
  go_wp2_with fail
  refine LN2.out.mono ?_
  rintro e W2 ⟨hb2, hcase⟩
  have C0 : Hid (W2.heap[w.heap.size]? = some (.cells #[.bool folded, .int .i64 chomp] 28 (0, 0))) := (hb2.block _ (by have := HS1.out; omega)).trans B0.out
  have C1 : Hid (W2.heap[w.heap.size + 1]? = some (.cells #[.int .i64 0, .int .i64 0] 32 (0, 0))) := (hb2.block _ (by have := HS1.out; omega)).trans B1.out
  have HB2 : Hid (Below w.heap.size w W2) := HB1.out.trans (hb2.mono HB1.out.size)
  have HZ2 : w.heap.size + 2 ≤ W2.heap.size := by have := hb2.size; have := HS1.out; omega
  have HK0 := Lib.hid (Kept.first W2 32 #[.int .i64 0, .int .i64 0])
  clear hb2 LN2 B0 B1
  rcases hcase with ⟨k, hbad, rfl⟩ | ⟨hnone, B, cc, rfl, hstr⟩
  · have HV : Hid (takeV rs col folded chomp = .tuple #[.string ⟨#[]⟩, .int .i64 0, .agg #[.int .i64 9, .int .i64 (rs.getD k rw0).ln]]) := by show _ = _; unfold takeV; rw [hbad]
    generalize (rs.getD k rw0).ln = ln at HV ⊢
    clear hbad
    have HK1 := Lib.hid (HK0.out.set #[.int .i64 9, .int .i64 ln])
    have HD1 : Hid (((W2.alloc (.cells #[.int .i64 0, .int .i64 0] 32)).setRow W2.heap.size #[.int .i64 9, .int .i64 ln]).heap[w.heap.size + 1]? = some (.cells #[.int .i64 0, .int .i64 0] 32 (0, 0))) := (HK1.out.2.block _ (by omega)).trans C1.out
    have p0 := HK1.out.cell 0
    have p1 := HK1.out.cell 1
    have f0 := bl_block_cell HD1.out 0
    have f1 := bl_block_cell HD1.out 1
    have f2 := bl_block_free HD1.out 0
    have f3 := bl_block_free HD1.out 1
    have HB3 := Lib.hid (HB2.out.trans (HK1.out.2.mono HB2.out.size))
    go_wp2_with (refine wpList_store_row rfl 32 _ _ rfl W2.heap.size #[.int .i64 9, .int .i64 ln] rfl rfl 32 _ HK0.out.1 (by kernel_rfl) rfl (two_one _ _) ?_)
    generalize ((W2.alloc _).setRow _ _) = w3 at HD1 HB3 p0 p1 f0 f1 f2 f3 ⊢
    go_region
    all_goals
      go_wp2_with fail
      have hbs := bl_block_set (bl_block_set HD1.out 0 (.int .i64 9)) 1 (.int .i64 ln)
      have z0 := bl_block_cell hbs 0
      have z1 := bl_block_cell hbs 1
      refine bodyPost_ret (v := .tuple #[.string ⟨#[]⟩, .int .i64 0, .agg #[.int .i64 9, .int .i64 ln]]) (by simp [results, Try.results16, go_sem, z0, z1]) rfl ⟨by rw [HV.out], ?_⟩
      first
        | exact ((HB3.out.setCell (p := ⟨w.heap.size + 1, 0, none⟩) (by simp) _).setCell (p := ⟨w.heap.size + 1, 1, none⟩) (by simp) _).drew
        | exact ((HB3.out.drew.setCell (p := ⟨w.heap.size + 1, 0, none⟩) (by simp) _).setCell (p := ⟨w.heap.size + 1, 1, none⟩) (by simp) _)
  · have HTV : Hid (takeV rs col folded chomp = .tuple #[.string ⟨(textT rs (cntT rs col) folded chomp).toArray⟩, .int .i64 (cntT rs col : Nat), .agg #[.int .i64 0, .int .i64 0]]) := by
      show _ = _; unfold takeV; rw [hnone]
    have hnb : ∀ j, j < cntT rs col → badT rs j = false := by
      intro j hj
      have h := hnone
      unfold badAt at h
      rw [List.find?_range_eq_none] at h
      have := h j hj
      simpa using this
    obtain ⟨n, hn⟩ : ∃ n, cntT rs col = n := ⟨_, rfl⟩
    rw [hn] at hcl hnb hstr HTV ⊢
    have hes := endT_le rs n
    have hbulk := linesT_bulk rs (endT rs n) (by omega) fun j hj => hnb j (by omega)
    have hbt := bulkT_le rs (endT rs n)
    have hfl := foldL_le (linesT rs (endT rs n))
    have hll := linesT_len rs (endT rs n)
    have HTX : Hid (textT rs n folded chomp = (if folded = true then foldL (linesT rs (endT rs n)) else joinT (linesT rs (endT rs n))) ++ (if chomp ≠ 1 ∧ 0 < endT rs n then [10] else []) ++ (if chomp = 2 then List.replicate (n - endT rs n) 10 else [])) := rfl
    obtain ⟨es, hes0⟩ : ∃ es, endT rs n = es := ⟨_, rfl⟩
    obtain ⟨L, hL⟩ : ∃ L, linesT rs (endT rs n) = L := ⟨_, rfl⟩
    rw [hL] at hbulk hfl hll HTX hstr
    rw [hes0] at hes hbulk hbt hll HTX ⊢
    clear hL hes0 hn hnone hnb
    have hn4 : n ≤ 10000 := by omega
    have hb9 : bulkL L ≤ 755360000 := by omega
    have hln : lns (L.map fun l => (⟨l.toArray⟩ : ByteArray)) = L := bl_map L
    have HK1 := Lib.hid (HK0.out.set #[.int .i64 0, .int .i64 0])
    have HD0 : Hid (((W2.alloc (.cells #[.int .i64 0, .int .i64 0] 32)).setRow W2.heap.size #[.int .i64 0, .int .i64 0]).heap[w.heap.size]? = some (.cells #[.bool folded, .int .i64 chomp] 28 (0, 0))) := (HK1.out.2.block _ (by omega)).trans C0.out
    have HD1 : Hid (((W2.alloc (.cells #[.int .i64 0, .int .i64 0] 32)).setRow W2.heap.size #[.int .i64 0, .int .i64 0]).heap[w.heap.size + 1]? = some (.cells #[.int .i64 0, .int .i64 0] 32 (0, 0))) := (HK1.out.2.block _ (by omega)).trans C1.out
    have HG := Lib.hid (hstr.below HK1.out.2)
    have p0 := HK1.out.cell 0
    have y0 := bl_block_cell HD0.out 0
    have y1 := bl_block_cell HD0.out 1
    have HB3 := Lib.hid (HB2.out.trans (HK1.out.2.mono HB2.out.size))
    clear hstr
    go_wp2_with (refine wpList_store_row rfl 32 _ _ rfl W2.heap.size #[.int .i64 0, .int .i64 0] rfl rfl 32 _ HK0.out.1 (by kernel_rfl) rfl (two_one _ _) ?_)
    generalize ((W2.alloc _).setRow _ _) = w3 at HD0 HD1 HG HB3 p0 y0 y1 ⊢
    clear HK0 HK1 C0 C1 HB2
    have FD := rfold_any B cc (L.map fun l => (⟨l.toArray⟩ : ByteArray)) w3 HG.out (by simp [hll]; omega) (by rw [hln]; omega)
    rw [hln, List.length_map, hll] at FD
    have FDH := Lib.hid FD
    have HLL := Lib.hid hll
    have HCL := Lib.hid (fun k hk => catL_le L k hk)
    have HBT := Lib.hid (fun k => bulk_take_le L k)
    have hjl := joinT_le L
    have HJ := Lib.hid (catL_all L)
    have HAT : Hid (∀ i, i < es → ∃ b off, B = some ⟨b, off, none⟩ ∧ w3.cell? ⟨b, off + i, none⟩ = some (.string ⟨(L.getD i []).toArray⟩)) := fun i hi => by
      obtain ⟨b, off, h1, h2, h3⟩ := HG.out.at_ i (by simp [hll]; exact hi)
      exact ⟨b, off, h1, by rw [h3]; simp [List.getD_eq_getElem?_getD, show i < L.length by omega]⟩
    have HLB : Hid (∀ i, i < es → (L.getD i []).length ≤ 755360000) := fun i hi => by have := line_le L i (by omega); omega
    clear FD hln hbulk hbt
    cases folded with
    | true =>
      simp only [if_true] at HTX
      go_loop [13, 14] (fun u v => u = .string ⟨#[]⟩ ∧ v = .int .i64 0) (fun _ _ => 0)
      case atStart => exact ⟨rfl, rfl⟩
      case round =>
        obtain ⟨rfl, rfl⟩ := hrel
        obtain ⟨sb, hsb⟩ : ∃ s : ByteArray, s = ⟨(foldL L).toArray⟩ := ⟨_, rfl⟩
        have HSB : Hid (sb.data.toList = foldL L) := by show _ = _; rw [hsb]
        have hsz : sb.size ≤ 800000000 := by rw [← bl_size, HSB.out]; omega
        rw [← hsb] at FDH
        clear hsb hfl hjl
        have hs0 : 0 < es ∨ ¬ 0 < es := Nat.lt_or_ge 0 es |>.imp id (fun h => by omega)
        rcases hs0 with hs0 | hs0
        · have hsd : decide (0 < es) = true := decide_eq_true hs0
          clear hs0
          go_wp2_with fail
          refine FDH.out.mono ?_
          rintro e w4 ⟨rfl, rfl⟩
          clear hsd
          have hadd1 : sb.size + (⟨#[10]⟩ : ByteArray).size ≤ 9223372036854775807 := by show sb.size + 1 ≤ _; omega
          by_cases hc1 : chomp = 1
          · have k1 : (chomp != 1) = false := by rw [hc1]; rfl
            have k2 : (chomp == 2) = false := by rw [hc1]; rfl
            have hcx : Hid (¬ (chomp ≠ 1 ∧ 0 < es)) := fun h => h.1 hc1
            have hcy : Hid (chomp ≠ 2) := by show _ ≠ _; rw [hc1]; decide
            clear hc1
            go_wp2_with fail
            go_loop [13, 15] (fun u v => u = .string (sb) ∧ v = .int .i64 0) (fun _ _ => 0)
            case atStart => exact ⟨rfl, rfl⟩
            case round =>
              obtain ⟨rfl, rfl⟩ := hrel
              by_cases hn0 : es < n
              · have hd1 : decide (es < n) = true := decide_eq_true hn0
                have hd2 : decide ((0 : Int) < (n : Int) - (es : Int)) = true := decide_eq_true (by omega)
                clear hn0
                go_wp2_with (refine wpList_store_row rfl 32 _ _ rfl (w.heap.size + 1) #[.int .i64 0, .int .i64 0] rfl rfl 32 _ HD1.out (by kernel_rfl) rfl (two_one _ _) ?_)
                have hz := setRow_heap _ _ _ #[Value.int .i64 0, Value.int .i64 0] _ _ HD1.out
                have z0 := bl_block_cell hz 0
                have z1 := bl_block_cell hz 1
                refine bodyPost_ret (v := .tuple #[.string (sb), .int .i64 (n : Nat), .agg #[.int .i64 0, .int .i64 0]]) (by simp [results, Try.results16, go_sem, z0, z1]) rfl ⟨?_, ?_⟩
                · rw [HTV.out]
                  refine congrArg (fun x => Ending.returned (.tuple #[x, .int .i64 (n : Nat), .agg #[.int .i64 0, .int .i64 0]])) ?_
                  refine bl_str_eq ?_
                  rw [HTX.out]
                  rw [if_neg hcx.out, if_neg hcy.out, List.append_nil, List.append_nil, HSB.out]
                · exact HB3.out.trans (bl_setRow_below _ (by omega) _)
              · have hd1 : decide (es < n) = false := decide_eq_false hn0
                have hd2 : decide ((0 : Int) < (n : Int) - (es : Int)) = false := decide_eq_false (by omega)
                clear hn0
                go_wp2_with (refine wpList_store_row rfl 32 _ _ rfl (w.heap.size + 1) #[.int .i64 0, .int .i64 0] rfl rfl 32 _ HD1.out (by kernel_rfl) rfl (two_one _ _) ?_)
                have hz := setRow_heap _ _ _ #[Value.int .i64 0, Value.int .i64 0] _ _ HD1.out
                have z0 := bl_block_cell hz 0
                have z1 := bl_block_cell hz 1
                refine bodyPost_ret (v := .tuple #[.string (sb), .int .i64 (n : Nat), .agg #[.int .i64 0, .int .i64 0]]) (by simp [results, Try.results16, go_sem, z0, z1]) rfl ⟨?_, ?_⟩
                · rw [HTV.out]
                  refine congrArg (fun x => Ending.returned (.tuple #[x, .int .i64 (n : Nat), .agg #[.int .i64 0, .int .i64 0]])) ?_
                  refine bl_str_eq ?_
                  rw [HTX.out]
                  rw [if_neg hcx.out, if_neg hcy.out, List.append_nil, List.append_nil, HSB.out]
                · exact HB3.out.trans (bl_setRow_below _ (by omega) _)
          · have k1 : (chomp != 1) = true := by simpa using hc1
            have HC1 := Lib.hid hc1
            clear hc1
            by_cases he0 : 0 < es
            · have ke : decide (0 < es) = true := decide_eq_true he0
              have hcx : Hid (chomp ≠ 1 ∧ 0 < es) := ⟨HC1.out, he0⟩
              clear he0
              by_cases hc2 : chomp = 2
              · have k2 : (chomp == 2) = true := by rw [hc2]; rfl
                have HC2 := Lib.hid hc2
                clear hc2
                have hSz : (sb ++ ⟨#[10]⟩).size ≤ 800000001 := by rw [← bl_size, cat_data, List.length_append, bl_size]; show sb.size + 1 ≤ _; omega
                go_wp2_with fail
                go_loop [13, 15] (fun u v => ∃ (j : Nat) (o : ByteArray), j ≤ n - es ∧ u = .string o ∧ v = .int .i64 (j : Nat) ∧ Hid (o.data.toList = (sb ++ ⟨#[10]⟩).data.toList ++ List.replicate j 10)) (fun _ v => (n - es) - (intOf v).toNat)
                case atStart => exact ⟨0, _, Nat.zero_le _, rfl, rfl, by simp [Hid]⟩
                case round =>
                  obtain ⟨j, o, hj, rfl, rfl, ho⟩ := hrel
                  have hoz : o.size ≤ 800000001 + 10000 := by rw [← bl_size, ho.out, List.length_append, bl_size, List.length_replicate]; omega
                  by_cases hjn : j < n - es
                  · have hd2 : decide ((j : Int) < (n : Int) - (es : Int)) = true := decide_eq_true (by omega)
                    have hadd3 : o.size + (⟨#[10]⟩ : ByteArray).size ≤ 9223372036854775807 := by show o.size + 1 ≤ _; omega
                    have HO : Hid ((o ++ ⟨#[10]⟩).data.toList = (sb ++ ⟨#[10]⟩).data.toList ++ List.replicate (j + 1) 10) := by show _ = _; rw [cat_data o, ho.out, List.replicate_succ', List.append_assoc]
                    clear ho
                    go_wp2_with fail
                    go_round
                    case rel => exact ⟨j + 1, _, by omega, rfl, by go_num, HO.out⟩
                    case measure => simp [intOf]; omega
                  · have hd2 : decide ((j : Int) < (n : Int) - (es : Int)) = false := decide_eq_false (by omega)
                    have hjd : n - es = j := by omega
                    have HJD := Lib.hid hjd
                    clear hjn hjd
                    go_wp2_with (refine wpList_store_row rfl 32 _ _ rfl (w.heap.size + 1) #[.int .i64 0, .int .i64 0] rfl rfl 32 _ HD1.out (by kernel_rfl) rfl (two_one _ _) ?_)
                    have hz := setRow_heap _ _ _ #[Value.int .i64 0, Value.int .i64 0] _ _ HD1.out
                    have z0 := bl_block_cell hz 0
                    have z1 := bl_block_cell hz 1
                    refine bodyPost_ret (v := .tuple #[.string (o), .int .i64 (n : Nat), .agg #[.int .i64 0, .int .i64 0]]) (by simp [results, Try.results16, go_sem, z0, z1]) rfl ⟨?_, ?_⟩
                    · rw [HTV.out]
                      refine congrArg (fun x => Ending.returned (.tuple #[x, .int .i64 (n : Nat), .agg #[.int .i64 0, .int .i64 0]])) ?_
                      refine bl_str_eq ?_
                      rw [HTX.out]
                      rw [ho.out, HJD.out, if_pos HC2.out, if_pos hcx.out, cat_data sb, HSB.out]
                    · exact HB3.out.trans (bl_setRow_below _ (by omega) _)
              · have k2 : (chomp == 2) = false := by simpa using hc2
                have HC2 := Lib.hid hc2
                clear hc2
                go_wp2_with fail
                go_loop [13, 15] (fun u v => u = .string (sb ++ ⟨#[10]⟩) ∧ v = .int .i64 0) (fun _ _ => 0)
                case atStart => exact ⟨rfl, rfl⟩
                case round =>
                  obtain ⟨rfl, rfl⟩ := hrel
                  by_cases hn0 : es < n
                  · have hd1 : decide (es < n) = true := decide_eq_true hn0
                    have hd2 : decide ((0 : Int) < (n : Int) - (es : Int)) = true := decide_eq_true (by omega)
                    clear hn0
                    go_wp2_with (refine wpList_store_row rfl 32 _ _ rfl (w.heap.size + 1) #[.int .i64 0, .int .i64 0] rfl rfl 32 _ HD1.out (by kernel_rfl) rfl (two_one _ _) ?_)
                    have hz := setRow_heap _ _ _ #[Value.int .i64 0, Value.int .i64 0] _ _ HD1.out
                    have z0 := bl_block_cell hz 0
                    have z1 := bl_block_cell hz 1
                    refine bodyPost_ret (v := .tuple #[.string (sb ++ ⟨#[10]⟩), .int .i64 (n : Nat), .agg #[.int .i64 0, .int .i64 0]]) (by simp [results, Try.results16, go_sem, z0, z1]) rfl ⟨?_, ?_⟩
                    · rw [HTV.out]
                      refine congrArg (fun x => Ending.returned (.tuple #[x, .int .i64 (n : Nat), .agg #[.int .i64 0, .int .i64 0]])) ?_
                      refine bl_str_eq ?_
                      rw [HTX.out]
                      rw [if_neg HC2.out, if_pos hcx.out, List.append_nil, cat_data sb, HSB.out]
                    · exact HB3.out.trans (bl_setRow_below _ (by omega) _)
                  · have hd1 : decide (es < n) = false := decide_eq_false hn0
                    have hd2 : decide ((0 : Int) < (n : Int) - (es : Int)) = false := decide_eq_false (by omega)
                    clear hn0
                    go_wp2_with (refine wpList_store_row rfl 32 _ _ rfl (w.heap.size + 1) #[.int .i64 0, .int .i64 0] rfl rfl 32 _ HD1.out (by kernel_rfl) rfl (two_one _ _) ?_)
                    have hz := setRow_heap _ _ _ #[Value.int .i64 0, Value.int .i64 0] _ _ HD1.out
                    have z0 := bl_block_cell hz 0
                    have z1 := bl_block_cell hz 1
                    refine bodyPost_ret (v := .tuple #[.string (sb ++ ⟨#[10]⟩), .int .i64 (n : Nat), .agg #[.int .i64 0, .int .i64 0]]) (by simp [results, Try.results16, go_sem, z0, z1]) rfl ⟨?_, ?_⟩
                    · rw [HTV.out]
                      refine congrArg (fun x => Ending.returned (.tuple #[x, .int .i64 (n : Nat), .agg #[.int .i64 0, .int .i64 0]])) ?_
                      refine bl_str_eq ?_
                      rw [HTX.out]
                      rw [if_neg HC2.out, if_pos hcx.out, List.append_nil, cat_data sb, HSB.out]
                    · exact HB3.out.trans (bl_setRow_below _ (by omega) _)
            · have ke : decide (0 < es) = false := decide_eq_false he0
              have hcx : Hid (¬ (chomp ≠ 1 ∧ 0 < es)) := fun h => he0 h.2
              have he1 : es = 0 := by omega
              have HE1 := Lib.hid he1
              clear he0 he1
              by_cases hc2 : chomp = 2
              · have k2 : (chomp == 2) = true := by rw [hc2]; rfl
                have HC2 := Lib.hid hc2
                clear hc2
                have hSz : (sb).size ≤ 800000001 := by omega
                go_wp2_with fail
                go_loop [13, 15] (fun u v => ∃ (j : Nat) (o : ByteArray), j ≤ n - es ∧ u = .string o ∧ v = .int .i64 (j : Nat) ∧ Hid (o.data.toList = (sb).data.toList ++ List.replicate j 10)) (fun _ v => (n - es) - (intOf v).toNat)
                case atStart => exact ⟨0, _, Nat.zero_le _, rfl, rfl, by simp [Hid]⟩
                case round =>
                  obtain ⟨j, o, hj, rfl, rfl, ho⟩ := hrel
                  have hoz : o.size ≤ 800000001 + 10000 := by rw [← bl_size, ho.out, List.length_append, bl_size, List.length_replicate]; omega
                  by_cases hjn : j < n - es
                  · have hd2 : decide ((j : Int) < (n : Int) - (es : Int)) = true := decide_eq_true (by omega)
                    have hadd3 : o.size + (⟨#[10]⟩ : ByteArray).size ≤ 9223372036854775807 := by show o.size + 1 ≤ _; omega
                    have HO : Hid ((o ++ ⟨#[10]⟩).data.toList = (sb).data.toList ++ List.replicate (j + 1) 10) := by show _ = _; rw [cat_data o, ho.out, List.replicate_succ', List.append_assoc]
                    clear ho
                    go_wp2_with fail
                    go_round
                    case rel => exact ⟨j + 1, _, by omega, rfl, by go_num, HO.out⟩
                    case measure => simp [intOf]; omega
                  · have hd2 : decide ((j : Int) < (n : Int) - (es : Int)) = false := decide_eq_false (by omega)
                    have hjd : n - es = j := by omega
                    have HJD := Lib.hid hjd
                    clear hjn hjd
                    go_wp2_with (refine wpList_store_row rfl 32 _ _ rfl (w.heap.size + 1) #[.int .i64 0, .int .i64 0] rfl rfl 32 _ HD1.out (by kernel_rfl) rfl (two_one _ _) ?_)
                    have hz := setRow_heap _ _ _ #[Value.int .i64 0, Value.int .i64 0] _ _ HD1.out
                    have z0 := bl_block_cell hz 0
                    have z1 := bl_block_cell hz 1
                    refine bodyPost_ret (v := .tuple #[.string (o), .int .i64 (n : Nat), .agg #[.int .i64 0, .int .i64 0]]) (by simp [results, Try.results16, go_sem, z0, z1]) rfl ⟨?_, ?_⟩
                    · rw [HTV.out]
                      refine congrArg (fun x => Ending.returned (.tuple #[x, .int .i64 (n : Nat), .agg #[.int .i64 0, .int .i64 0]])) ?_
                      refine bl_str_eq ?_
                      rw [HTX.out]
                      rw [ho.out, HJD.out, if_pos HC2.out, if_neg hcx.out, List.append_nil, HSB.out]
                    · exact HB3.out.trans (bl_setRow_below _ (by omega) _)
              · have k2 : (chomp == 2) = false := by simpa using hc2
                have HC2 := Lib.hid hc2
                clear hc2
                go_wp2_with fail
                go_loop [13, 15] (fun u v => u = .string (sb) ∧ v = .int .i64 0) (fun _ _ => 0)
                case atStart => exact ⟨rfl, rfl⟩
                case round =>
                  obtain ⟨rfl, rfl⟩ := hrel
                  by_cases hn0 : es < n
                  · have hd1 : decide (es < n) = true := decide_eq_true hn0
                    have hd2 : decide ((0 : Int) < (n : Int) - (es : Int)) = true := decide_eq_true (by omega)
                    clear hn0
                    go_wp2_with (refine wpList_store_row rfl 32 _ _ rfl (w.heap.size + 1) #[.int .i64 0, .int .i64 0] rfl rfl 32 _ HD1.out (by kernel_rfl) rfl (two_one _ _) ?_)
                    have hz := setRow_heap _ _ _ #[Value.int .i64 0, Value.int .i64 0] _ _ HD1.out
                    have z0 := bl_block_cell hz 0
                    have z1 := bl_block_cell hz 1
                    refine bodyPost_ret (v := .tuple #[.string (sb), .int .i64 (n : Nat), .agg #[.int .i64 0, .int .i64 0]]) (by simp [results, Try.results16, go_sem, z0, z1]) rfl ⟨?_, ?_⟩
                    · rw [HTV.out]
                      refine congrArg (fun x => Ending.returned (.tuple #[x, .int .i64 (n : Nat), .agg #[.int .i64 0, .int .i64 0]])) ?_
                      refine bl_str_eq ?_
                      rw [HTX.out]
                      rw [if_neg HC2.out, if_neg hcx.out, List.append_nil, List.append_nil, HSB.out]
                    · exact HB3.out.trans (bl_setRow_below _ (by omega) _)
                  · have hd1 : decide (es < n) = false := decide_eq_false hn0
                    have hd2 : decide ((0 : Int) < (n : Int) - (es : Int)) = false := decide_eq_false (by omega)
                    clear hn0
                    go_wp2_with (refine wpList_store_row rfl 32 _ _ rfl (w.heap.size + 1) #[.int .i64 0, .int .i64 0] rfl rfl 32 _ HD1.out (by kernel_rfl) rfl (two_one _ _) ?_)
                    have hz := setRow_heap _ _ _ #[Value.int .i64 0, Value.int .i64 0] _ _ HD1.out
                    have z0 := bl_block_cell hz 0
                    have z1 := bl_block_cell hz 1
                    refine bodyPost_ret (v := .tuple #[.string (sb), .int .i64 (n : Nat), .agg #[.int .i64 0, .int .i64 0]]) (by simp [results, Try.results16, go_sem, z0, z1]) rfl ⟨?_, ?_⟩
                    · rw [HTV.out]
                      refine congrArg (fun x => Ending.returned (.tuple #[x, .int .i64 (n : Nat), .agg #[.int .i64 0, .int .i64 0]])) ?_
                      refine bl_str_eq ?_
                      rw [HTX.out]
                      rw [if_neg HC2.out, if_neg hcx.out, List.append_nil, List.append_nil, HSB.out]
                    · exact HB3.out.trans (bl_setRow_below _ (by omega) _)
        · have hsd : decide (0 < es) = false := decide_eq_false hs0
          clear hs0
          go_wp2_with fail
          refine FDH.out.mono ?_
          rintro e w4 ⟨rfl, rfl⟩
          clear hsd
          have hadd1 : sb.size + (⟨#[10]⟩ : ByteArray).size ≤ 9223372036854775807 := by show sb.size + 1 ≤ _; omega
          by_cases hc1 : chomp = 1
          · have k1 : (chomp != 1) = false := by rw [hc1]; rfl
            have k2 : (chomp == 2) = false := by rw [hc1]; rfl
            have hcx : Hid (¬ (chomp ≠ 1 ∧ 0 < es)) := fun h => h.1 hc1
            have hcy : Hid (chomp ≠ 2) := by show _ ≠ _; rw [hc1]; decide
            clear hc1
            go_wp2_with fail
            go_loop [13, 15] (fun u v => u = .string (sb) ∧ v = .int .i64 0) (fun _ _ => 0)
            case atStart => exact ⟨rfl, rfl⟩
            case round =>
              obtain ⟨rfl, rfl⟩ := hrel
              by_cases hn0 : es < n
              · have hd1 : decide (es < n) = true := decide_eq_true hn0
                have hd2 : decide ((0 : Int) < (n : Int) - (es : Int)) = true := decide_eq_true (by omega)
                clear hn0
                go_wp2_with (refine wpList_store_row rfl 32 _ _ rfl (w.heap.size + 1) #[.int .i64 0, .int .i64 0] rfl rfl 32 _ HD1.out (by kernel_rfl) rfl (two_one _ _) ?_)
                have hz := setRow_heap _ _ _ #[Value.int .i64 0, Value.int .i64 0] _ _ HD1.out
                have z0 := bl_block_cell hz 0
                have z1 := bl_block_cell hz 1
                refine bodyPost_ret (v := .tuple #[.string (sb), .int .i64 (n : Nat), .agg #[.int .i64 0, .int .i64 0]]) (by simp [results, Try.results16, go_sem, z0, z1]) rfl ⟨?_, ?_⟩
                · rw [HTV.out]
                  refine congrArg (fun x => Ending.returned (.tuple #[x, .int .i64 (n : Nat), .agg #[.int .i64 0, .int .i64 0]])) ?_
                  refine bl_str_eq ?_
                  rw [HTX.out]
                  rw [if_neg hcx.out, if_neg hcy.out, List.append_nil, List.append_nil, HSB.out]
                · exact HB3.out.trans (bl_setRow_below _ (by omega) _)
              · have hd1 : decide (es < n) = false := decide_eq_false hn0
                have hd2 : decide ((0 : Int) < (n : Int) - (es : Int)) = false := decide_eq_false (by omega)
                clear hn0
                go_wp2_with (refine wpList_store_row rfl 32 _ _ rfl (w.heap.size + 1) #[.int .i64 0, .int .i64 0] rfl rfl 32 _ HD1.out (by kernel_rfl) rfl (two_one _ _) ?_)
                have hz := setRow_heap _ _ _ #[Value.int .i64 0, Value.int .i64 0] _ _ HD1.out
                have z0 := bl_block_cell hz 0
                have z1 := bl_block_cell hz 1
                refine bodyPost_ret (v := .tuple #[.string (sb), .int .i64 (n : Nat), .agg #[.int .i64 0, .int .i64 0]]) (by simp [results, Try.results16, go_sem, z0, z1]) rfl ⟨?_, ?_⟩
                · rw [HTV.out]
                  refine congrArg (fun x => Ending.returned (.tuple #[x, .int .i64 (n : Nat), .agg #[.int .i64 0, .int .i64 0]])) ?_
                  refine bl_str_eq ?_
                  rw [HTX.out]
                  rw [if_neg hcx.out, if_neg hcy.out, List.append_nil, List.append_nil, HSB.out]
                · exact HB3.out.trans (bl_setRow_below _ (by omega) _)
          · have k1 : (chomp != 1) = true := by simpa using hc1
            have HC1 := Lib.hid hc1
            clear hc1
            by_cases he0 : 0 < es
            · have ke : decide (0 < es) = true := decide_eq_true he0
              have hcx : Hid (chomp ≠ 1 ∧ 0 < es) := ⟨HC1.out, he0⟩
              clear he0
              by_cases hc2 : chomp = 2
              · have k2 : (chomp == 2) = true := by rw [hc2]; rfl
                have HC2 := Lib.hid hc2
                clear hc2
                have hSz : (sb ++ ⟨#[10]⟩).size ≤ 800000001 := by rw [← bl_size, cat_data, List.length_append, bl_size]; show sb.size + 1 ≤ _; omega
                go_wp2_with fail
                go_loop [13, 15] (fun u v => ∃ (j : Nat) (o : ByteArray), j ≤ n - es ∧ u = .string o ∧ v = .int .i64 (j : Nat) ∧ Hid (o.data.toList = (sb ++ ⟨#[10]⟩).data.toList ++ List.replicate j 10)) (fun _ v => (n - es) - (intOf v).toNat)
                case atStart => exact ⟨0, _, Nat.zero_le _, rfl, rfl, by simp [Hid]⟩
                case round =>
                  obtain ⟨j, o, hj, rfl, rfl, ho⟩ := hrel
                  have hoz : o.size ≤ 800000001 + 10000 := by rw [← bl_size, ho.out, List.length_append, bl_size, List.length_replicate]; omega
                  by_cases hjn : j < n - es
                  · have hd2 : decide ((j : Int) < (n : Int) - (es : Int)) = true := decide_eq_true (by omega)
                    have hadd3 : o.size + (⟨#[10]⟩ : ByteArray).size ≤ 9223372036854775807 := by show o.size + 1 ≤ _; omega
                    have HO : Hid ((o ++ ⟨#[10]⟩).data.toList = (sb ++ ⟨#[10]⟩).data.toList ++ List.replicate (j + 1) 10) := by show _ = _; rw [cat_data o, ho.out, List.replicate_succ', List.append_assoc]
                    clear ho
                    go_wp2_with fail
                    go_round
                    case rel => exact ⟨j + 1, _, by omega, rfl, by go_num, HO.out⟩
                    case measure => simp [intOf]; omega
                  · have hd2 : decide ((j : Int) < (n : Int) - (es : Int)) = false := decide_eq_false (by omega)
                    have hjd : n - es = j := by omega
                    have HJD := Lib.hid hjd
                    clear hjn hjd
                    go_wp2_with (refine wpList_store_row rfl 32 _ _ rfl (w.heap.size + 1) #[.int .i64 0, .int .i64 0] rfl rfl 32 _ HD1.out (by kernel_rfl) rfl (two_one _ _) ?_)
                    have hz := setRow_heap _ _ _ #[Value.int .i64 0, Value.int .i64 0] _ _ HD1.out
                    have z0 := bl_block_cell hz 0
                    have z1 := bl_block_cell hz 1
                    refine bodyPost_ret (v := .tuple #[.string (o), .int .i64 (n : Nat), .agg #[.int .i64 0, .int .i64 0]]) (by simp [results, Try.results16, go_sem, z0, z1]) rfl ⟨?_, ?_⟩
                    · rw [HTV.out]
                      refine congrArg (fun x => Ending.returned (.tuple #[x, .int .i64 (n : Nat), .agg #[.int .i64 0, .int .i64 0]])) ?_
                      refine bl_str_eq ?_
                      rw [HTX.out]
                      rw [ho.out, HJD.out, if_pos HC2.out, if_pos hcx.out, cat_data sb, HSB.out]
                    · exact HB3.out.trans (bl_setRow_below _ (by omega) _)
              · have k2 : (chomp == 2) = false := by simpa using hc2
                have HC2 := Lib.hid hc2
                clear hc2
                go_wp2_with fail
                go_loop [13, 15] (fun u v => u = .string (sb ++ ⟨#[10]⟩) ∧ v = .int .i64 0) (fun _ _ => 0)
                case atStart => exact ⟨rfl, rfl⟩
                case round =>
                  obtain ⟨rfl, rfl⟩ := hrel
                  by_cases hn0 : es < n
                  · have hd1 : decide (es < n) = true := decide_eq_true hn0
                    have hd2 : decide ((0 : Int) < (n : Int) - (es : Int)) = true := decide_eq_true (by omega)
                    clear hn0
                    go_wp2_with (refine wpList_store_row rfl 32 _ _ rfl (w.heap.size + 1) #[.int .i64 0, .int .i64 0] rfl rfl 32 _ HD1.out (by kernel_rfl) rfl (two_one _ _) ?_)
                    have hz := setRow_heap _ _ _ #[Value.int .i64 0, Value.int .i64 0] _ _ HD1.out
                    have z0 := bl_block_cell hz 0
                    have z1 := bl_block_cell hz 1
                    refine bodyPost_ret (v := .tuple #[.string (sb ++ ⟨#[10]⟩), .int .i64 (n : Nat), .agg #[.int .i64 0, .int .i64 0]]) (by simp [results, Try.results16, go_sem, z0, z1]) rfl ⟨?_, ?_⟩
                    · rw [HTV.out]
                      refine congrArg (fun x => Ending.returned (.tuple #[x, .int .i64 (n : Nat), .agg #[.int .i64 0, .int .i64 0]])) ?_
                      refine bl_str_eq ?_
                      rw [HTX.out]
                      rw [if_neg HC2.out, if_pos hcx.out, List.append_nil, cat_data sb, HSB.out]
                    · exact HB3.out.trans (bl_setRow_below _ (by omega) _)
                  · have hd1 : decide (es < n) = false := decide_eq_false hn0
                    have hd2 : decide ((0 : Int) < (n : Int) - (es : Int)) = false := decide_eq_false (by omega)
                    clear hn0
                    go_wp2_with (refine wpList_store_row rfl 32 _ _ rfl (w.heap.size + 1) #[.int .i64 0, .int .i64 0] rfl rfl 32 _ HD1.out (by kernel_rfl) rfl (two_one _ _) ?_)
                    have hz := setRow_heap _ _ _ #[Value.int .i64 0, Value.int .i64 0] _ _ HD1.out
                    have z0 := bl_block_cell hz 0
                    have z1 := bl_block_cell hz 1
                    refine bodyPost_ret (v := .tuple #[.string (sb ++ ⟨#[10]⟩), .int .i64 (n : Nat), .agg #[.int .i64 0, .int .i64 0]]) (by simp [results, Try.results16, go_sem, z0, z1]) rfl ⟨?_, ?_⟩
                    · rw [HTV.out]
                      refine congrArg (fun x => Ending.returned (.tuple #[x, .int .i64 (n : Nat), .agg #[.int .i64 0, .int .i64 0]])) ?_
                      refine bl_str_eq ?_
                      rw [HTX.out]
                      rw [if_neg HC2.out, if_pos hcx.out, List.append_nil, cat_data sb, HSB.out]
                    · exact HB3.out.trans (bl_setRow_below _ (by omega) _)
            · have ke : decide (0 < es) = false := decide_eq_false he0
              have hcx : Hid (¬ (chomp ≠ 1 ∧ 0 < es)) := fun h => he0 h.2
              have he1 : es = 0 := by omega
              have HE1 := Lib.hid he1
              clear he0 he1
              by_cases hc2 : chomp = 2
              · have k2 : (chomp == 2) = true := by rw [hc2]; rfl
                have HC2 := Lib.hid hc2
                clear hc2
                have hSz : (sb).size ≤ 800000001 := by omega
                go_wp2_with fail
                go_loop [13, 15] (fun u v => ∃ (j : Nat) (o : ByteArray), j ≤ n - es ∧ u = .string o ∧ v = .int .i64 (j : Nat) ∧ Hid (o.data.toList = (sb).data.toList ++ List.replicate j 10)) (fun _ v => (n - es) - (intOf v).toNat)
                case atStart => exact ⟨0, _, Nat.zero_le _, rfl, rfl, by simp [Hid]⟩
                case round =>
                  obtain ⟨j, o, hj, rfl, rfl, ho⟩ := hrel
                  have hoz : o.size ≤ 800000001 + 10000 := by rw [← bl_size, ho.out, List.length_append, bl_size, List.length_replicate]; omega
                  by_cases hjn : j < n - es
                  · have hd2 : decide ((j : Int) < (n : Int) - (es : Int)) = true := decide_eq_true (by omega)
                    have hadd3 : o.size + (⟨#[10]⟩ : ByteArray).size ≤ 9223372036854775807 := by show o.size + 1 ≤ _; omega
                    have HO : Hid ((o ++ ⟨#[10]⟩).data.toList = (sb).data.toList ++ List.replicate (j + 1) 10) := by show _ = _; rw [cat_data o, ho.out, List.replicate_succ', List.append_assoc]
                    clear ho
                    go_wp2_with fail
                    go_round
                    case rel => exact ⟨j + 1, _, by omega, rfl, by go_num, HO.out⟩
                    case measure => simp [intOf]; omega
                  · have hd2 : decide ((j : Int) < (n : Int) - (es : Int)) = false := decide_eq_false (by omega)
                    have hjd : n - es = j := by omega
                    have HJD := Lib.hid hjd
                    clear hjn hjd
                    go_wp2_with (refine wpList_store_row rfl 32 _ _ rfl (w.heap.size + 1) #[.int .i64 0, .int .i64 0] rfl rfl 32 _ HD1.out (by kernel_rfl) rfl (two_one _ _) ?_)
                    have hz := setRow_heap _ _ _ #[Value.int .i64 0, Value.int .i64 0] _ _ HD1.out
                    have z0 := bl_block_cell hz 0
                    have z1 := bl_block_cell hz 1
                    refine bodyPost_ret (v := .tuple #[.string (o), .int .i64 (n : Nat), .agg #[.int .i64 0, .int .i64 0]]) (by simp [results, Try.results16, go_sem, z0, z1]) rfl ⟨?_, ?_⟩
                    · rw [HTV.out]
                      refine congrArg (fun x => Ending.returned (.tuple #[x, .int .i64 (n : Nat), .agg #[.int .i64 0, .int .i64 0]])) ?_
                      refine bl_str_eq ?_
                      rw [HTX.out]
                      rw [ho.out, HJD.out, if_pos HC2.out, if_neg hcx.out, List.append_nil, HSB.out]
                    · exact HB3.out.trans (bl_setRow_below _ (by omega) _)
              · have k2 : (chomp == 2) = false := by simpa using hc2
                have HC2 := Lib.hid hc2
                clear hc2
                go_wp2_with fail
                go_loop [13, 15] (fun u v => u = .string (sb) ∧ v = .int .i64 0) (fun _ _ => 0)
                case atStart => exact ⟨rfl, rfl⟩
                case round =>
                  obtain ⟨rfl, rfl⟩ := hrel
                  by_cases hn0 : es < n
                  · have hd1 : decide (es < n) = true := decide_eq_true hn0
                    have hd2 : decide ((0 : Int) < (n : Int) - (es : Int)) = true := decide_eq_true (by omega)
                    clear hn0
                    go_wp2_with (refine wpList_store_row rfl 32 _ _ rfl (w.heap.size + 1) #[.int .i64 0, .int .i64 0] rfl rfl 32 _ HD1.out (by kernel_rfl) rfl (two_one _ _) ?_)
                    have hz := setRow_heap _ _ _ #[Value.int .i64 0, Value.int .i64 0] _ _ HD1.out
                    have z0 := bl_block_cell hz 0
                    have z1 := bl_block_cell hz 1
                    refine bodyPost_ret (v := .tuple #[.string (sb), .int .i64 (n : Nat), .agg #[.int .i64 0, .int .i64 0]]) (by simp [results, Try.results16, go_sem, z0, z1]) rfl ⟨?_, ?_⟩
                    · rw [HTV.out]
                      refine congrArg (fun x => Ending.returned (.tuple #[x, .int .i64 (n : Nat), .agg #[.int .i64 0, .int .i64 0]])) ?_
                      refine bl_str_eq ?_
                      rw [HTX.out]
                      rw [if_neg HC2.out, if_neg hcx.out, List.append_nil, List.append_nil, HSB.out]
                    · exact HB3.out.trans (bl_setRow_below _ (by omega) _)
                  · have hd1 : decide (es < n) = false := decide_eq_false hn0
                    have hd2 : decide ((0 : Int) < (n : Int) - (es : Int)) = false := decide_eq_false (by omega)
                    clear hn0
                    go_wp2_with (refine wpList_store_row rfl 32 _ _ rfl (w.heap.size + 1) #[.int .i64 0, .int .i64 0] rfl rfl 32 _ HD1.out (by kernel_rfl) rfl (two_one _ _) ?_)
                    have hz := setRow_heap _ _ _ #[Value.int .i64 0, Value.int .i64 0] _ _ HD1.out
                    have z0 := bl_block_cell hz 0
                    have z1 := bl_block_cell hz 1
                    refine bodyPost_ret (v := .tuple #[.string (sb), .int .i64 (n : Nat), .agg #[.int .i64 0, .int .i64 0]]) (by simp [results, Try.results16, go_sem, z0, z1]) rfl ⟨?_, ?_⟩
                    · rw [HTV.out]
                      refine congrArg (fun x => Ending.returned (.tuple #[x, .int .i64 (n : Nat), .agg #[.int .i64 0, .int .i64 0]])) ?_
                      refine bl_str_eq ?_
                      rw [HTX.out]
                      rw [if_neg HC2.out, if_neg hcx.out, List.append_nil, List.append_nil, HSB.out]
                    · exact HB3.out.trans (bl_setRow_below _ (by omega) _)
    | false =>
      simp only [Bool.false_eq_true, if_false] at HTX
      go_loop [13, 14] (fun u v => ∃ (i : Nat) (sb : ByteArray), i ≤ es ∧ u = .string sb ∧ v = .int .i64 (i : Nat) ∧ Hid (sb.data.toList = catL L i)) (fun _ v => es - (intOf v).toNat)
      case atStart => exact ⟨0, ⟨#[]⟩, Nat.zero_le _, rfl, rfl, rfl⟩
      case round =>
        obtain ⟨i, sb, hi, rfl, rfl, hsb⟩ := hrel
        have hsz : sb.size ≤ 756000000 := by
          rw [← bl_size, hsb.out]
          have h1 := HCL.out i (by rw [HLL.out]; exact hi)
          have h2 := HBT.out i
          omega
        by_cases hlt : i < es
        · have hlt' : (i : Int) < (es : Int) := by omega
          have hltd : decide (i < es) = true := decide_eq_true hlt
          obtain ⟨b, off, hA, hc⟩ := HAT.out i hlt
          have hll2 := HLB.out i hlt
          obtain ⟨l, hl2⟩ : ∃ l : ByteArray, l = ⟨(L.getD i []).toArray⟩ := ⟨_, rfl⟩
          have hld : l.data.toList = L.getD i [] := by rw [hl2]
          have hlz : l.size ≤ 755360000 := by rw [← bl_size, hld]; exact hll2
          rw [← hl2] at hc
          have hadd1 : sb.size + (⟨#[10]⟩ : ByteArray).size ≤ 9223372036854775807 := by show sb.size + 1 ≤ _; omega
          have hadd2 : (sb ++ ⟨#[10]⟩).size + l.size ≤ 9223372036854775807 := by rw [← bl_size, cat_data, List.length_append, bl_size]; show sb.size + 1 + l.size ≤ _; omega
          have hadd3 : sb.size + l.size ≤ 9223372036854775807 := by omega
          have hdl : decide (i < l.size) = decide (i < l.size) := rfl
          subst hA
          by_cases h0 : i = 0
          · have hgt : decide (0 < i) = false := decide_eq_false (by omega)
            have HO : Hid ((sb ++ l).data.toList = catL L (i + 1)) := by
              show _ = _
              rw [cat_data, hsb.out, hld]
              simp only [catL]
              rw [if_pos h0, List.append_nil]
            clear h0 hsb hl2 hld hdl
            go_wp2_with fail
            go_round
            case rel => exact ⟨i + 1, _, by omega, rfl, by go_num, HO.out⟩
            case measure => simp [intOf]; omega
          · have hgt : decide (0 < i) = true := decide_eq_true (by omega)
            have HO : Hid (((sb ++ ⟨#[10]⟩) ++ l).data.toList = catL L (i + 1)) := by
              show _ = _
              rw [cat_data, cat_data, hsb.out, hld]
              simp only [catL]
              rw [if_neg h0]
            clear h0 hsb hl2 hld hdl
            go_wp2_with fail
            go_round
            case rel => exact ⟨i + 1, _, by omega, rfl, by go_num, HO.out⟩
            case measure => simp [intOf]; omega
        · obtain rfl : es = i := by omega
          have HSB : Hid (sb.data.toList = joinT L) := by show _ = _; rw [hsb.out, ← HJ.out, HLL.out]
          clear hsb hlt hfl hjl
          have hadd1 : sb.size + (⟨#[10]⟩ : ByteArray).size ≤ 9223372036854775807 := by show sb.size + 1 ≤ _; omega
          by_cases hc1 : chomp = 1
          · have k1 : (chomp != 1) = false := by rw [hc1]; rfl
            have k2 : (chomp == 2) = false := by rw [hc1]; rfl
            have hcx : Hid (¬ (chomp ≠ 1 ∧ 0 < es)) := fun h => h.1 hc1
            have hcy : Hid (chomp ≠ 2) := by show _ ≠ _; rw [hc1]; decide
            clear hc1
            go_wp2_with fail
            go_loop [13, 15] (fun u v => u = .string (sb) ∧ v = .int .i64 0) (fun _ _ => 0)
            case atStart => exact ⟨rfl, rfl⟩
            case round =>
              obtain ⟨rfl, rfl⟩ := hrel
              by_cases hn0 : es < n
              · have hd1 : decide (es < n) = true := decide_eq_true hn0
                have hd2 : decide ((0 : Int) < (n : Int) - (es : Int)) = true := decide_eq_true (by omega)
                clear hn0
                go_wp2_with (refine wpList_store_row rfl 32 _ _ rfl (w.heap.size + 1) #[.int .i64 0, .int .i64 0] rfl rfl 32 _ HD1.out (by kernel_rfl) rfl (two_one _ _) ?_)
                have hz := setRow_heap _ _ _ #[Value.int .i64 0, Value.int .i64 0] _ _ HD1.out
                have z0 := bl_block_cell hz 0
                have z1 := bl_block_cell hz 1
                refine bodyPost_ret (v := .tuple #[.string (sb), .int .i64 (n : Nat), .agg #[.int .i64 0, .int .i64 0]]) (by simp [results, Try.results16, go_sem, z0, z1]) rfl ⟨?_, ?_⟩
                · rw [HTV.out]
                  refine congrArg (fun x => Ending.returned (.tuple #[x, .int .i64 (n : Nat), .agg #[.int .i64 0, .int .i64 0]])) ?_
                  refine bl_str_eq ?_
                  rw [HTX.out]
                  rw [if_neg hcx.out, if_neg hcy.out, List.append_nil, List.append_nil, HSB.out]
                · exact HB3.out.trans (bl_setRow_below _ (by omega) _)
              · have hd1 : decide (es < n) = false := decide_eq_false hn0
                have hd2 : decide ((0 : Int) < (n : Int) - (es : Int)) = false := decide_eq_false (by omega)
                clear hn0
                go_wp2_with (refine wpList_store_row rfl 32 _ _ rfl (w.heap.size + 1) #[.int .i64 0, .int .i64 0] rfl rfl 32 _ HD1.out (by kernel_rfl) rfl (two_one _ _) ?_)
                have hz := setRow_heap _ _ _ #[Value.int .i64 0, Value.int .i64 0] _ _ HD1.out
                have z0 := bl_block_cell hz 0
                have z1 := bl_block_cell hz 1
                refine bodyPost_ret (v := .tuple #[.string (sb), .int .i64 (n : Nat), .agg #[.int .i64 0, .int .i64 0]]) (by simp [results, Try.results16, go_sem, z0, z1]) rfl ⟨?_, ?_⟩
                · rw [HTV.out]
                  refine congrArg (fun x => Ending.returned (.tuple #[x, .int .i64 (n : Nat), .agg #[.int .i64 0, .int .i64 0]])) ?_
                  refine bl_str_eq ?_
                  rw [HTX.out]
                  rw [if_neg hcx.out, if_neg hcy.out, List.append_nil, List.append_nil, HSB.out]
                · exact HB3.out.trans (bl_setRow_below _ (by omega) _)
          · have k1 : (chomp != 1) = true := by simpa using hc1
            have HC1 := Lib.hid hc1
            clear hc1
            by_cases he0 : 0 < es
            · have ke : decide (0 < es) = true := decide_eq_true he0
              have hcx : Hid (chomp ≠ 1 ∧ 0 < es) := ⟨HC1.out, he0⟩
              clear he0
              by_cases hc2 : chomp = 2
              · have k2 : (chomp == 2) = true := by rw [hc2]; rfl
                have HC2 := Lib.hid hc2
                clear hc2
                have hSz : (sb ++ ⟨#[10]⟩).size ≤ 800000001 := by rw [← bl_size, cat_data, List.length_append, bl_size]; show sb.size + 1 ≤ _; omega
                go_wp2_with fail
                go_loop [13, 15] (fun u v => ∃ (j : Nat) (o : ByteArray), j ≤ n - es ∧ u = .string o ∧ v = .int .i64 (j : Nat) ∧ Hid (o.data.toList = (sb ++ ⟨#[10]⟩).data.toList ++ List.replicate j 10)) (fun _ v => (n - es) - (intOf v).toNat)
                case atStart => exact ⟨0, _, Nat.zero_le _, rfl, rfl, by simp [Hid]⟩
                case round =>
                  obtain ⟨j, o, hj, rfl, rfl, ho⟩ := hrel
                  have hoz : o.size ≤ 800000001 + 10000 := by rw [← bl_size, ho.out, List.length_append, bl_size, List.length_replicate]; omega
                  by_cases hjn : j < n - es
                  · have hd2 : decide ((j : Int) < (n : Int) - (es : Int)) = true := decide_eq_true (by omega)
                    have hadd3 : o.size + (⟨#[10]⟩ : ByteArray).size ≤ 9223372036854775807 := by show o.size + 1 ≤ _; omega
                    have HO : Hid ((o ++ ⟨#[10]⟩).data.toList = (sb ++ ⟨#[10]⟩).data.toList ++ List.replicate (j + 1) 10) := by show _ = _; rw [cat_data o, ho.out, List.replicate_succ', List.append_assoc]
                    clear ho
                    go_wp2_with fail
                    go_round
                    case rel => exact ⟨j + 1, _, by omega, rfl, by go_num, HO.out⟩
                    case measure => simp [intOf]; omega
                  · have hd2 : decide ((j : Int) < (n : Int) - (es : Int)) = false := decide_eq_false (by omega)
                    have hjd : n - es = j := by omega
                    have HJD := Lib.hid hjd
                    clear hjn hjd
                    go_wp2_with (refine wpList_store_row rfl 32 _ _ rfl (w.heap.size + 1) #[.int .i64 0, .int .i64 0] rfl rfl 32 _ HD1.out (by kernel_rfl) rfl (two_one _ _) ?_)
                    have hz := setRow_heap _ _ _ #[Value.int .i64 0, Value.int .i64 0] _ _ HD1.out
                    have z0 := bl_block_cell hz 0
                    have z1 := bl_block_cell hz 1
                    refine bodyPost_ret (v := .tuple #[.string (o), .int .i64 (n : Nat), .agg #[.int .i64 0, .int .i64 0]]) (by simp [results, Try.results16, go_sem, z0, z1]) rfl ⟨?_, ?_⟩
                    · rw [HTV.out]
                      refine congrArg (fun x => Ending.returned (.tuple #[x, .int .i64 (n : Nat), .agg #[.int .i64 0, .int .i64 0]])) ?_
                      refine bl_str_eq ?_
                      rw [HTX.out]
                      rw [ho.out, HJD.out, if_pos HC2.out, if_pos hcx.out, cat_data sb, HSB.out]
                    · exact HB3.out.trans (bl_setRow_below _ (by omega) _)
              · have k2 : (chomp == 2) = false := by simpa using hc2
                have HC2 := Lib.hid hc2
                clear hc2
                go_wp2_with fail
                go_loop [13, 15] (fun u v => u = .string (sb ++ ⟨#[10]⟩) ∧ v = .int .i64 0) (fun _ _ => 0)
                case atStart => exact ⟨rfl, rfl⟩
                case round =>
                  obtain ⟨rfl, rfl⟩ := hrel
                  by_cases hn0 : es < n
                  · have hd1 : decide (es < n) = true := decide_eq_true hn0
                    have hd2 : decide ((0 : Int) < (n : Int) - (es : Int)) = true := decide_eq_true (by omega)
                    clear hn0
                    go_wp2_with (refine wpList_store_row rfl 32 _ _ rfl (w.heap.size + 1) #[.int .i64 0, .int .i64 0] rfl rfl 32 _ HD1.out (by kernel_rfl) rfl (two_one _ _) ?_)
                    have hz := setRow_heap _ _ _ #[Value.int .i64 0, Value.int .i64 0] _ _ HD1.out
                    have z0 := bl_block_cell hz 0
                    have z1 := bl_block_cell hz 1
                    refine bodyPost_ret (v := .tuple #[.string (sb ++ ⟨#[10]⟩), .int .i64 (n : Nat), .agg #[.int .i64 0, .int .i64 0]]) (by simp [results, Try.results16, go_sem, z0, z1]) rfl ⟨?_, ?_⟩
                    · rw [HTV.out]
                      refine congrArg (fun x => Ending.returned (.tuple #[x, .int .i64 (n : Nat), .agg #[.int .i64 0, .int .i64 0]])) ?_
                      refine bl_str_eq ?_
                      rw [HTX.out]
                      rw [if_neg HC2.out, if_pos hcx.out, List.append_nil, cat_data sb, HSB.out]
                    · exact HB3.out.trans (bl_setRow_below _ (by omega) _)
                  · have hd1 : decide (es < n) = false := decide_eq_false hn0
                    have hd2 : decide ((0 : Int) < (n : Int) - (es : Int)) = false := decide_eq_false (by omega)
                    clear hn0
                    go_wp2_with (refine wpList_store_row rfl 32 _ _ rfl (w.heap.size + 1) #[.int .i64 0, .int .i64 0] rfl rfl 32 _ HD1.out (by kernel_rfl) rfl (two_one _ _) ?_)
                    have hz := setRow_heap _ _ _ #[Value.int .i64 0, Value.int .i64 0] _ _ HD1.out
                    have z0 := bl_block_cell hz 0
                    have z1 := bl_block_cell hz 1
                    refine bodyPost_ret (v := .tuple #[.string (sb ++ ⟨#[10]⟩), .int .i64 (n : Nat), .agg #[.int .i64 0, .int .i64 0]]) (by simp [results, Try.results16, go_sem, z0, z1]) rfl ⟨?_, ?_⟩
                    · rw [HTV.out]
                      refine congrArg (fun x => Ending.returned (.tuple #[x, .int .i64 (n : Nat), .agg #[.int .i64 0, .int .i64 0]])) ?_
                      refine bl_str_eq ?_
                      rw [HTX.out]
                      rw [if_neg HC2.out, if_pos hcx.out, List.append_nil, cat_data sb, HSB.out]
                    · exact HB3.out.trans (bl_setRow_below _ (by omega) _)
            · have ke : decide (0 < es) = false := decide_eq_false he0
              have hcx : Hid (¬ (chomp ≠ 1 ∧ 0 < es)) := fun h => he0 h.2
              have he1 : es = 0 := by omega
              have HE1 := Lib.hid he1
              clear he0 he1
              by_cases hc2 : chomp = 2
              · have k2 : (chomp == 2) = true := by rw [hc2]; rfl
                have HC2 := Lib.hid hc2
                clear hc2
                have hSz : (sb).size ≤ 800000001 := by omega
                go_wp2_with fail
                go_loop [13, 15] (fun u v => ∃ (j : Nat) (o : ByteArray), j ≤ n - es ∧ u = .string o ∧ v = .int .i64 (j : Nat) ∧ Hid (o.data.toList = (sb).data.toList ++ List.replicate j 10)) (fun _ v => (n - es) - (intOf v).toNat)
                case atStart => exact ⟨0, _, Nat.zero_le _, rfl, rfl, by simp [Hid]⟩
                case round =>
                  obtain ⟨j, o, hj, rfl, rfl, ho⟩ := hrel
                  have hoz : o.size ≤ 800000001 + 10000 := by rw [← bl_size, ho.out, List.length_append, bl_size, List.length_replicate]; omega
                  by_cases hjn : j < n - es
                  · have hd2 : decide ((j : Int) < (n : Int) - (es : Int)) = true := decide_eq_true (by omega)
                    have hadd3 : o.size + (⟨#[10]⟩ : ByteArray).size ≤ 9223372036854775807 := by show o.size + 1 ≤ _; omega
                    have HO : Hid ((o ++ ⟨#[10]⟩).data.toList = (sb).data.toList ++ List.replicate (j + 1) 10) := by show _ = _; rw [cat_data o, ho.out, List.replicate_succ', List.append_assoc]
                    clear ho
                    go_wp2_with fail
                    go_round
                    case rel => exact ⟨j + 1, _, by omega, rfl, by go_num, HO.out⟩
                    case measure => simp [intOf]; omega
                  · have hd2 : decide ((j : Int) < (n : Int) - (es : Int)) = false := decide_eq_false (by omega)
                    have hjd : n - es = j := by omega
                    have HJD := Lib.hid hjd
                    clear hjn hjd
                    go_wp2_with (refine wpList_store_row rfl 32 _ _ rfl (w.heap.size + 1) #[.int .i64 0, .int .i64 0] rfl rfl 32 _ HD1.out (by kernel_rfl) rfl (two_one _ _) ?_)
                    have hz := setRow_heap _ _ _ #[Value.int .i64 0, Value.int .i64 0] _ _ HD1.out
                    have z0 := bl_block_cell hz 0
                    have z1 := bl_block_cell hz 1
                    refine bodyPost_ret (v := .tuple #[.string (o), .int .i64 (n : Nat), .agg #[.int .i64 0, .int .i64 0]]) (by simp [results, Try.results16, go_sem, z0, z1]) rfl ⟨?_, ?_⟩
                    · rw [HTV.out]
                      refine congrArg (fun x => Ending.returned (.tuple #[x, .int .i64 (n : Nat), .agg #[.int .i64 0, .int .i64 0]])) ?_
                      refine bl_str_eq ?_
                      rw [HTX.out]
                      rw [ho.out, HJD.out, if_pos HC2.out, if_neg hcx.out, List.append_nil, HSB.out]
                    · exact HB3.out.trans (bl_setRow_below _ (by omega) _)
              · have k2 : (chomp == 2) = false := by simpa using hc2
                have HC2 := Lib.hid hc2
                clear hc2
                go_wp2_with fail
                go_loop [13, 15] (fun u v => u = .string (sb) ∧ v = .int .i64 0) (fun _ _ => 0)
                case atStart => exact ⟨rfl, rfl⟩
                case round =>
                  obtain ⟨rfl, rfl⟩ := hrel
                  by_cases hn0 : es < n
                  · have hd1 : decide (es < n) = true := decide_eq_true hn0
                    have hd2 : decide ((0 : Int) < (n : Int) - (es : Int)) = true := decide_eq_true (by omega)
                    clear hn0
                    go_wp2_with (refine wpList_store_row rfl 32 _ _ rfl (w.heap.size + 1) #[.int .i64 0, .int .i64 0] rfl rfl 32 _ HD1.out (by kernel_rfl) rfl (two_one _ _) ?_)
                    have hz := setRow_heap _ _ _ #[Value.int .i64 0, Value.int .i64 0] _ _ HD1.out
                    have z0 := bl_block_cell hz 0
                    have z1 := bl_block_cell hz 1
                    refine bodyPost_ret (v := .tuple #[.string (sb), .int .i64 (n : Nat), .agg #[.int .i64 0, .int .i64 0]]) (by simp [results, Try.results16, go_sem, z0, z1]) rfl ⟨?_, ?_⟩
                    · rw [HTV.out]
                      refine congrArg (fun x => Ending.returned (.tuple #[x, .int .i64 (n : Nat), .agg #[.int .i64 0, .int .i64 0]])) ?_
                      refine bl_str_eq ?_
                      rw [HTX.out]
                      rw [if_neg HC2.out, if_neg hcx.out, List.append_nil, List.append_nil, HSB.out]
                    · exact HB3.out.trans (bl_setRow_below _ (by omega) _)
                  · have hd1 : decide (es < n) = false := decide_eq_false hn0
                    have hd2 : decide ((0 : Int) < (n : Int) - (es : Int)) = false := decide_eq_false (by omega)
                    clear hn0
                    go_wp2_with (refine wpList_store_row rfl 32 _ _ rfl (w.heap.size + 1) #[.int .i64 0, .int .i64 0] rfl rfl 32 _ HD1.out (by kernel_rfl) rfl (two_one _ _) ?_)
                    have hz := setRow_heap _ _ _ #[Value.int .i64 0, Value.int .i64 0] _ _ HD1.out
                    have z0 := bl_block_cell hz 0
                    have z1 := bl_block_cell hz 1
                    refine bodyPost_ret (v := .tuple #[.string (sb), .int .i64 (n : Nat), .agg #[.int .i64 0, .int .i64 0]]) (by simp [results, Try.results16, go_sem, z0, z1]) rfl ⟨?_, ?_⟩
                    · rw [HTV.out]
                      refine congrArg (fun x => Ending.returned (.tuple #[x, .int .i64 (n : Nat), .agg #[.int .i64 0, .int .i64 0]])) ?_
                      refine bl_str_eq ?_
                      rw [HTX.out]
                      rw [if_neg HC2.out, if_neg hcx.out, List.append_nil, List.append_nil, HSB.out]
                    · exact HB3.out.trans (bl_setRow_below _ (by omega) _)
end Go.Proofs.Ytnggbhpnpomfjaa
