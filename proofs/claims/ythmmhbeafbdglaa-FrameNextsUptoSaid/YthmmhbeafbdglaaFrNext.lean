import Derived.Test.YthmmhbeafbdglaaFrPutBad
namespace Go.Proofs.Ythmmhbeafbdglaa
open Go.RowKit
/-- bytes as a string -/
def strOf (bs : List Nat) : ByteArray := strOfNums (bs.map Int.ofNat)
theorem conv_bytes (A : Option Addr) (cap : Nat) (bs : List Nat) (w : World) (h : BytesAt w A bs) :
    (convert 28 9 (.slice A bs.length cap)).run Try.prog w = .ok (.string (strOf bs)) w := by
  rcases h with h | ⟨b, off, h1, _, h3⟩
  · subst h
    cases A with
    | none => exact run_convert_bytes_nil w _ _ Try.underlying28 Try.underlying5 _ _ _ Try.underlying9
    | some a =>
      have hl : (loadCells a 0).run Try.prog w = .ok (([] : List Int).map (Value.int .u8)).toArray w := by
        have := run_loadCells_list (P := Try.prog) w a [] (fun j v hj => by simp at hj)
        simpa using this
      rw [run_convert_bytes_string w _ _ _ _ _ _ Try.underlying28 Try.underlying5 Try.underlying9]
      exact run_bytesToString w a 0 cap [] hl
  · subst h1
    refine run_convert_bytes_arg w _ _ Try.underlying28 Try.underlying5 b off bs.length cap (bs.map Int.ofNat) (by simp) (fun i hi => ?_) _ Try.underlying9
    rw [h3 i hi]
    simp [List.getD_eq_getElem?_getD, hi]
theorem strOf_inj {a b : List Nat} (ha : AllBytes a) (hb : AllBytes b) (h : strOf a = strOf b) : a = b := by
  have h1 : (strOf a).data.toList = (strOf b).data.toList := by rw [h]
  unfold strOf at h1
  rw [strOfNums_data, strOfNums_data, List.map_map, List.map_map] at h1
  have key : ∀ (x y : List Nat), AllBytes x → AllBytes y → x.map ((fun n : Int => UInt8.ofNat n.toNat) ∘ Int.ofNat) = y.map ((fun n : Int => UInt8.ofNat n.toNat) ∘ Int.ofNat) → x = y := by
    intro x
    induction x with
    | nil => intro y _ _ hxy; cases y with | nil => rfl | cons c l => simp at hxy
    | cons c l ih =>
      intro y hx hy hxy
      cases y with
      | nil => simp at hxy
      | cons d m =>
        simp only [List.map_cons, List.cons.injEq] at hxy
        have hc := hx c (by simp)
        have hd := hy d (by simp)
        have h2 : c = d := by
          have := congrArg UInt8.toNat hxy.1
          simpa [Nat.mod_eq_of_lt hc, Nat.mod_eq_of_lt hd] using this
        rw [h2, ih m (fun e he => hx e (by simp [he])) (fun e he => hy e (by simp [he])) hxy.2]
  exact key a b ha hb h1

def yrec : List Nat := [89, 82, 69, 67]
theorem yrec_bytes : AllBytes yrec := by unfold AllBytes yrec; decide
theorem yrec_slice (k : Nat) (hk : k ≤ 4) (W : World) : (Instr.sliceAt 9 (.string ⟨#[89, 82, 69, 67]⟩) none (some (.int .i64 (k : Int))) none).run Try.prog W = .ok (.string (strOf (yrec.take k))) W := by
  rw [run_sliceAt_string W _ _ _ _ _ Try.underlying9]
  have h : ∀ j, j ≤ 4 → (⟨#[89, 82, 69, 67]⟩ : ByteArray).extract 0 j = strOf (yrec.take j) := by
    intro j hj
    match j, hj with
    | 0, _ => decide
    | 1, _ => decide
    | 2, _ => decide
    | 3, _ => decide
    | 4, _ => decide
  have e1 : (⟨#[89, 82, 69, 67]⟩ : ByteArray).size = 4 := rfl
  have hb : (Instr.sliceBound (.int .i64 (k : Int)) 4 .sliceAlen).run Try.prog W = .ok k W := run_sliceBound _ .i64 (k : Int) 4 .sliceAlen (by omega) (by omega)
  simp [Instr.slice, run_underlying Try.underlying9, Instr.sliceBounds, e1, hb, h k hk]

set_option maxHeartbeats 400000 in
theorem none_any (x : Int) (w : World) :
    Calls Try.prog 42 #[.int .i64 x] w fun e w' => e = .returned (.tuple #[.agg #[.int .i64 0, .slice none 0 0], .int .i64 0, .int .i64 x]) ∧ Below w.heap.size w w' := by
  have HB : Hid (∀ o : Obj, Below w.heap.size w (w.alloc o)) := fun o => (Below.refl _ _).alloc (Nat.le_refl _) _
  go_enter Try.func42, Try.ntmps42
  go_wp2
  refine bodyPost_ret (v := .tuple #[.agg #[.int .i64 0, .slice none 0 0], .int .i64 0, .int .i64 x]) (by simp [results, Try.results42, go_sem]) rfl ⟨rfl, HB.out _⟩

/-- what stands in the block of the result -/
def ResB (w w2 : World) (cs : Array Value) : Prop := w2.heap[w.heap.size]? = some (.cells cs 41 (0, 0)) ∧ Below w.heap.size w w2
theorem ResB.first (w : World) (cs : Array Value) : ResB w (w.alloc (.cells cs 41)) cs := ⟨heap_alloc_new _ _, (Below.refl _ _).alloc (Nat.le_refl _) _⟩
theorem ResB.drewN {w w2 : World} {cs : Array Value} (h : ResB w w2 cs) (n : Nat) : ResB w (w2.drewN n) cs := ⟨h.1, below_drewN h.2 n⟩
theorem ResB.below {w w2 w3 : World} {cs : Array Value} (h : ResB w w2 cs) (hb : Below w2.heap.size w2 w3) : ResB w w3 cs := ⟨(hb.block _ (block_lt h.1)).trans h.1, h.2.trans (hb.mono h.2.size)⟩
theorem ResB.set {w w2 : World} {cs : Array Value} (h : ResB w w2 cs) (ds : Array Value) : ResB w (w2.setRow w.heap.size ds) ds := ⟨setRow_heap _ _ _ _ _ _ h.1, h.2.trans (setRow_below w2 (Nat.le_refl _) ds)⟩
theorem ResB.cell {w w2 : World} {cs : Array Value} (h : ResB w w2 cs) (i : Nat) : w2.cell? ⟨w.heap.size, i, none⟩ = cs[i]? := block_cell h.1 i

theorem fcells_one (n : Int) (A : Option Addr) (c k : Nat) : (#[Value.int .i64 n, Value.slice A c k]).all (·.oneCell') = true := by simp [Value.oneCell']
theorem strList_ne {a b : ByteArray} (h : a ≠ b) : (a.toList == b.toList) = false := by
  rw [beq_eq_false_iff_ne]
  intro e
  apply h
  have h1 : a.data.toList = b.data.toList := by rw [← Lib.toList_data, ← Lib.toList_data, e]
  cases a; cases b
  congr 1
  exact Array.toList_inj.1 h1

set_option maxHeartbeats 400000 in
theorem next_short_form (A : Option Addr) (cap : Nat) (bs : List Nat) (w : World) (g : BytesIn w A cap bs) (hl : (bs.length : Int) ≤ 4) (hm : bs.take bs.length ≠ yrec.take bs.length) :
    Calls Try.prog 26 #[.slice A bs.length cap] w fun e w' => e = .returned (.tuple #[.agg #[.int .i64 0, .slice none 0 0], .int .i64 0, .int .i64 3]) ∧ Below w.heap.size w w' := by
  have hs1 : ∀ W : World, _ := fun W => slice_to A bs.length cap bs.length (by have := g.cap; omega) W
  have hs2 : ∀ W : World, _ := fun W => yrec_slice bs.length (by omega) W
  have hx : ∀ (o : Obj) (n : Nat), (convert 28 9 (.slice (subA A 0 cap) bs.length cap)).run Try.prog ((w.alloc o).drewN n) = .ok (.string (strOf (bs.take bs.length))) ((w.alloc o).drewN n) := by
    intro o n
    have h := conv_bytes (subA A 0 cap) cap (bs.take bs.length) ((w.alloc o).drewN n) ((g.at_.take bs.length cap).below (below_drewN ((Below.refl _ _).alloc (Nat.le_refl _) o) n))
    rw [show (bs.take bs.length).length = bs.length from by simp] at h
    exact h
  have hne : ((strOf (bs.take bs.length)).toList == (strOf (yrec.take bs.length)).toList) = false := strList_ne (fun h => hm (strOf_inj (g.bytes.take _) (yrec_bytes.take _) h))
  clear hm
  generalize strOf (bs.take bs.length) = s1 at hx hne
  generalize strOf (yrec.take bs.length) = s2 at hs2 hne
  have HR := Lib.hid (ResB.first w #[.int .i64 0, .slice none 0 0])
  go_enter Try.func26, Try.ntmps26
  go_wp2_with fail
  go_quiet (fail)
  go_wp2_with fail
  refine (none_any _ _).mono ?_
  rintro e w2 ⟨rfl, hb2⟩
  have HR2 := Lib.hid ((HR.out.drewN nq).below hb2)
  clear hb2
  go_wp2_with (refine wpList_store_row rfl 41 _ _ rfl w.heap.size #[.int .i64 0, .slice none 0 0] rfl rfl 41 _ HR2.out.1 (by kernel_rfl) rfl (fcells_one _ _ _ _) ?_)
  have HR3 := HR2.out.set #[.int .i64 0, .slice none 0 0]
  have q0 := HR3.cell 0
  have q1 := HR3.cell 1
  refine bodyPost_ret (v := .tuple #[.agg #[.int .i64 0, .slice none 0 0], .int .i64 0, .int .i64 3]) (by simp [results, Try.results26, go_sem, q0, q1]) rfl ⟨rfl, HR3.2⟩

set_option maxHeartbeats 400000 in
theorem next_long_form (A : Option Addr) (cap : Nat) (bs : List Nat) (w : World) (g : BytesIn w A cap bs) (hl : (4 : Int) < (bs.length : Int)) (hm : bs.take 4 ≠ yrec.take 4) :
    Calls Try.prog 26 #[.slice A bs.length cap] w fun e w' => e = .returned (.tuple #[.agg #[.int .i64 0, .slice none 0 0], .int .i64 0, .int .i64 3]) ∧ Below w.heap.size w w' := by
  have hs1 : ∀ W : World, _ := fun W => slice_to A bs.length cap 4 (by have := g.cap; omega) W
  have hs2 : ∀ W : World, _ := fun W => yrec_slice 4 (by omega) W
  have hx : ∀ (o : Obj) (n : Nat), (convert 28 9 (.slice (subA A 0 cap) 4 cap)).run Try.prog ((w.alloc o).drewN n) = .ok (.string (strOf (bs.take 4))) ((w.alloc o).drewN n) := by
    intro o n
    have h := conv_bytes (subA A 0 cap) cap (bs.take 4) ((w.alloc o).drewN n) ((g.at_.take 4 cap).below (below_drewN ((Below.refl _ _).alloc (Nat.le_refl _) o) n))
    rw [show (bs.take 4).length = 4 from by simp; omega] at h
    exact h
  have hne : ((strOf (bs.take 4)).toList == (strOf (yrec.take 4)).toList) = false := strList_ne (fun h => hm (strOf_inj (g.bytes.take _) (yrec_bytes.take _) h))
  rw [show ((4 : Nat) : Int) = 4 from rfl] at hs1 hs2
  clear hm
  generalize strOf (bs.take 4) = s1 at hx hne
  generalize strOf (yrec.take 4) = s2 at hs2 hne
  have HR := Lib.hid (ResB.first w #[.int .i64 0, .slice none 0 0])
  go_enter Try.func26, Try.ntmps26
  go_wp2_with fail
  go_quiet (fail)
  go_wp2_with fail
  refine (none_any _ _).mono ?_
  rintro e w2 ⟨rfl, hb2⟩
  have HR2 := Lib.hid ((HR.out.drewN nq).below hb2)
  clear hb2
  go_wp2_with (refine wpList_store_row rfl 41 _ _ rfl w.heap.size #[.int .i64 0, .slice none 0 0] rfl rfl 41 _ HR2.out.1 (by kernel_rfl) rfl (fcells_one _ _ _ _) ?_)
  have HR3 := HR2.out.set #[.int .i64 0, .slice none 0 0]
  have q0 := HR3.cell 0
  have q1 := HR3.cell 1
  refine bodyPost_ret (v := .tuple #[.agg #[.int .i64 0, .slice none 0 0], .int .i64 0, .int .i64 3]) (by simp [results, Try.results26, go_sem, q0, q1]) rfl ⟨rfl, HR3.2⟩

set_option maxHeartbeats 400000 in
theorem next_short_end (A : Option Addr) (cap : Nat) (bs : List Nat) (w : World) (g : BytesIn w A cap bs) (hl : (bs.length : Int) ≤ 4) (hm : bs.take bs.length = yrec.take bs.length) :
    Calls Try.prog 26 #[.slice A bs.length cap] w fun e w' => e = .returned (.tuple #[.agg #[.int .i64 0, .slice none 0 0], .int .i64 0, .int .i64 4]) ∧ Below w.heap.size w w' := by
  have hs1 : ∀ W : World, _ := fun W => slice_to A bs.length cap bs.length (by have := g.cap; omega) W
  have hs2 : ∀ W : World, _ := fun W => yrec_slice bs.length (by omega) W
  have hx : ∀ (o : Obj) (n : Nat), (convert 28 9 (.slice (subA A 0 cap) bs.length cap)).run Try.prog ((w.alloc o).drewN n) = .ok (.string (strOf (bs.take bs.length))) ((w.alloc o).drewN n) := by
    intro o n
    have h := conv_bytes (subA A 0 cap) cap (bs.take bs.length) ((w.alloc o).drewN n) ((g.at_.take bs.length cap).below (below_drewN ((Below.refl _ _).alloc (Nat.le_refl _) o) n))
    rw [show (bs.take bs.length).length = bs.length from by simp] at h
    exact h
  have hne : ((strOf (bs.take bs.length)).toList == (strOf (yrec.take bs.length)).toList) = true := by rw [hm]; exact beq_self_eq_true _
  clear hm
  generalize strOf (bs.take bs.length) = s1 at hx hne
  generalize strOf (yrec.take bs.length) = s2 at hs2 hne
  have HR := Lib.hid (ResB.first w #[.int .i64 0, .slice none 0 0])
  go_enter Try.func26, Try.ntmps26
  go_wp2_with fail
  go_quiet (fail)
  go_wp2_with fail
  refine (none_any _ _).mono ?_
  rintro e w2 ⟨rfl, hb2⟩
  have HR2 := Lib.hid ((HR.out.drewN nq).below hb2)
  clear hb2
  go_wp2_with (refine wpList_store_row rfl 41 _ _ rfl w.heap.size #[.int .i64 0, .slice none 0 0] rfl rfl 41 _ HR2.out.1 (by kernel_rfl) rfl (fcells_one _ _ _ _) ?_)
  have HR3 := HR2.out.set #[.int .i64 0, .slice none 0 0]
  have q0 := HR3.cell 0
  have q1 := HR3.cell 1
  refine bodyPost_ret (v := .tuple #[.agg #[.int .i64 0, .slice none 0 0], .int .i64 0, .int .i64 4]) (by simp [results, Try.results26, go_sem, q0, q1]) rfl ⟨rfl, HR3.2⟩

set_option maxHeartbeats 400000 in
theorem next_long_end (A : Option Addr) (cap : Nat) (bs : List Nat) (w : World) (g : BytesIn w A cap bs) (hl : (4 : Int) < (bs.length : Int)) (hl2 : (bs.length : Int) < 20) (hm : bs.take 4 = yrec.take 4) :
    Calls Try.prog 26 #[.slice A bs.length cap] w fun e w' => e = .returned (.tuple #[.agg #[.int .i64 0, .slice none 0 0], .int .i64 0, .int .i64 4]) ∧ Below w.heap.size w w' := by
  have hs1 : ∀ W : World, _ := fun W => slice_to A bs.length cap 4 (by have := g.cap; omega) W
  have hs2 : ∀ W : World, _ := fun W => yrec_slice 4 (by omega) W
  have hx : ∀ (o : Obj) (n : Nat), (convert 28 9 (.slice (subA A 0 cap) 4 cap)).run Try.prog ((w.alloc o).drewN n) = .ok (.string (strOf (bs.take 4))) ((w.alloc o).drewN n) := by
    intro o n
    have h := conv_bytes (subA A 0 cap) cap (bs.take 4) ((w.alloc o).drewN n) ((g.at_.take 4 cap).below (below_drewN ((Below.refl _ _).alloc (Nat.le_refl _) o) n))
    rw [show (bs.take 4).length = 4 from by simp; omega] at h
    exact h
  have hne : ((strOf (bs.take 4)).toList == (strOf (yrec.take 4)).toList) = true := by rw [hm]; exact beq_self_eq_true _
  rw [show ((4 : Nat) : Int) = 4 from rfl] at hs1 hs2
  clear hm
  generalize strOf (bs.take 4) = s1 at hx hne
  generalize strOf (yrec.take 4) = s2 at hs2 hne
  have HR := Lib.hid (ResB.first w #[.int .i64 0, .slice none 0 0])
  go_enter Try.func26, Try.ntmps26
  go_wp2_with fail
  go_quiet (fail)
  go_wp2_with fail
  refine (none_any _ _).mono ?_
  rintro e w2 ⟨rfl, hb2⟩
  have HR2 := Lib.hid ((HR.out.drewN nq).below hb2)
  clear hb2
  go_wp2_with (refine wpList_store_row rfl 41 _ _ rfl w.heap.size #[.int .i64 0, .slice none 0 0] rfl rfl 41 _ HR2.out.1 (by kernel_rfl) rfl (fcells_one _ _ _ _) ?_)
  have HR3 := HR2.out.set #[.int .i64 0, .slice none 0 0]
  have q0 := HR3.cell 0
  have q1 := HR3.cell 1
  refine bodyPost_ret (v := .tuple #[.agg #[.int .i64 0, .slice none 0 0], .int .i64 0, .int .i64 4]) (by simp [results, Try.results26, go_sem, q0, q1]) rfl ⟨rfl, HR3.2⟩
end Go.Proofs.Ythmmhbeafbdglaa
