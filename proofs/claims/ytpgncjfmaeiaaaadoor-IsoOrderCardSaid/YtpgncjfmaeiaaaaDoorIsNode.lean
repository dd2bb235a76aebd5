/- Sets of keys; may a node be by itself. Conditions: texts and rows no longer than 10^6; the library's variables as they are laid. -/
import Derived.Test.YtpgncjfmaeiaaaaDoorIsCont
set_option linter.unusedVariables false
namespace Go.Proofs.YtpgncjfmaeiaaaaDoor.Is
open Go.RowKit
theorem zbool (w : World) : (zeroValue 4).run Tryd.prog w = .ok (.bool false) w := by kernel_rfl
theorem zint (w : World) : (zeroValue 3).run Tryd.prog w = .ok (.int .i64 0) w := by kernel_rfl
def gkey (x : Int × ByteArray) : Value := .agg #[.int .i64 x.1, .string x.2]
theorem gkey_inj {x y : Int × ByteArray} (h : gkey x = gkey y) : x = y := by
  obtain ⟨a, s⟩ := x
  obtain ⟨b, t⟩ := y
  unfold gkey at h
  simp at h
  rw [h.1, h.2]
instance dmem (x : Int × ByteArray) : (l : List (Int × ByteArray)) → Decidable (x ∈ l)
  | [] => isFalse (by simp)
  | y :: l => if h : x = y then isTrue (by simp [h]) else match dmem x l with
    | isTrue h2 => isTrue (by simp [h2])
    | isFalse h2 => isFalse (by simp [h, h2])
/-- a map's function is a set of keys -/
def SetIs (f : Value → Option Value) (l : List (Int × ByteArray)) : Prop := ∀ x, f (gkey x) = if x ∈ l then some (.bool true) else none
theorem SetIs.put {f : Value → Option Value} {l : List (Int × ByteArray)} (h : SetIs f l) (x : Int × ByteArray) : SetIs (put1 f (gkey x) (.bool true)) (l ++ [x]) := by
  intro y
  by_cases hy : y = x
  · subst hy
    rw [put1_same, if_pos (by simp)]
  · rw [put1_other (fun e => hy (gkey_inj e)), h y]
    by_cases hm : y ∈ l
    · rw [if_pos hm, if_pos (by simp [hm])]
    · rw [if_neg hm, if_neg (by simp [hm, hy])]
theorem setUnder : Tryd.prog.underlying 80 = some (.map 82 4) := by kernel_rfl
def AddPost (b n : Nat) (l : List (Int × ByteArray)) (x : Int × ByteArray) (w : World) (e : Ending) (w' : World) : Prop :=
  e = .returned (.bool (!decide (x ∈ l))) ∧ (∃ f', MF w' 82 b (n + 1) f' ∧ SetIs f' (l ++ [x])) ∧ w.grownBy w' (some b)
theorem add_any (b n : Nat) (f : Value → Option Value) (l : List (Int × ByteArray)) (x : Int × ByteArray) (w : World) (M : MF w 82 b n f) (S : SetIs f l) (hn : n < maxLen) (hk : wf64 x.1) (hs : x.2.size ≤ maxLen) :
    Calls Tryd.prog 38 #[.map (some b), gkey x] w (AddPost b n l x w) := by
  obtain ⟨kl, hkey⟩ := keyOf_gkey hk hs
  have M1 := M.below (ext_world w (.cells #[.int .i64 x.1, .string x.2] 82))
  have L1 := M1.look keyed_gkey setUnder (zbool _) rfl hkey
  obtain ⟨w2, U1, M2, G2⟩ := M1.update keyed_gkey setUnder hn hkey (val := .bool true) rfl
  have hv : (f (.agg #[.int .i64 x.1, .string x.2])).getD (.bool false) = .bool (decide (x ∈ l)) := by
    show (f (gkey x)).getD _ = _
    rw [S x]
    by_cases hm : x ∈ l
    · rw [if_pos hm, decide_eq_true hm]; rfl
    · rw [if_neg hm, decide_eq_false hm]; rfl
  rw [hv] at L1
  have HM : Hid (∃ f', MF w2 82 b (n + 1) f' ∧ SetIs f' (l ++ [x])) := ⟨_, M2, S.put x⟩
  have HG : Hid (w.grownBy w2 (some b)) := by
    have h1 := below_grownBy (ext_world w (.cells #[.int .i64 x.1, .string x.2] 82)) (some b)
    exact h1.trans G2
  unfold AddPost
  generalize decide (x ∈ l) = res at L1 ⊢
  clear M S M1 M2 G2 hv
  generalize (l ++ [x]) = l2 at HM ⊢
  obtain ⟨k, s⟩ := x
  unfold gkey
  simp only at L1 U1 HM HG hkey ⊢
  go_enter Tryd.func38, Tryd.ntmps38
  go_wp2_with fail
  go_ret
  exact ⟨rfl, HM.out, HG.out⟩
def kidBad (L : Nat) (k : Int) : Bool := decide (k < 0) || decide ((L : Int) ≤ k)
theorem kidbad_any (g : Nat) (A : Option Addr) (L c : Nat) (k : Int) (w : World) (hc : w.cell? ⟨g, 0, none⟩ = some (.slice A L c)) : Calls Tryd.prog 37 #[.int .i64 k, .pointer (some ⟨g, 0, none⟩)] w fun e w' => e = .returned (.bool (kidBad L k)) ∧ Hid (Below w.heap.size w w') := by
  unfold kidBad
  by_cases h1 : k < 0
  · rw [decide_eq_true h1]
    go_enter Tryd.func37, Tryd.ntmps37
    go_wp2_with fail
    go_ret
    exact ⟨rfl, Below.refl _ _⟩
  · rw [decide_eq_false h1]
    have h1I : ¬ (k < 0) := h1
    obtain ⟨R, hR⟩ : ∃ R, R = decide ((L : Int) ≤ k) := ⟨_, rfl⟩
    rw [← hR]
    have HR := Lib.hid hR
    clear hR
    go_enter Tryd.func37, Tryd.ntmps37
    go_wp2_with fail
    go_ret
    exact ⟨by rw [HR.out]; rfl, Below.refl _ _⟩
def scalB (k : Int) : Bool := decide (1 ≤ k) && decide (k ≤ 4)
def keyAt (ns : List Nd) (k : Int) : Int × ByteArray := ((ns.getD k.toNat nd0).kind, (ns.getD k.toNat nd0).txt)
def keysOk (ns : List Nd) : List Int → List (Int × ByteArray) → Bool
  | [], _ => true
  | k :: l, met => scalB (keyAt ns k).1 && (!decide (keyAt ns k ∈ met) && keysOk ns l (met ++ [keyAt ns k]))
/-- may a node be by itself -/
def nodeB (ns : List Nd) (n : Nd) : Bool := decide (1 ≤ n.kind) && (decide (n.kind ≤ 6) && (textB n.kind n.txt && (!(scalB n.kind && decide (0 < n.kids.length)) && (!(decide (n.kind = 6) && decide (n.kids.length % 2 = 1)) && (!(n.kids.any (kidBad ns.length)) && keysOk ns (keysN n) [])))))
def BoolPost (b : Bool) (w : World) (e : Ending) (w' : World) : Prop := e = .returned (.bool b) ∧ Below w.heap.size w w'
theorem keys_mem {n : Nd} {k : Int} (h : k ∈ keysN n) : k ∈ n.kids := by
  unfold keysN at h
  split at h
  · unfold evens at h
    obtain ⟨j, hj, rfl⟩ := List.mem_map.1 h
    rw [List.mem_range] at hj
    rw [List.getD_eq_getElem?_getD, List.getElem?_eq_getElem (by omega)]
    exact List.getElem_mem _
  · cases h
theorem keysN_len (n : Nd) : (keysN n).length ≤ n.kids.length := by
  unfold keysN
  split
  · unfold evens
    rw [List.length_map, List.length_range]
    omega
  · exact Nat.zero_le _
theorem mk_set (w : World) : ∃ b w', (Instr.makeMap 80 none).run Tryd.prog w = .ok (.map (some b)) w' ∧ MF w' 82 b 0 (fun _ => none) ∧ Below w.heap.size w w' ∧ b = w.heap.size :=
  ⟨w.heap.size, w.alloc (.map #[] 0), run_makeMap _ w, MF.made w _, ext_world w _, rfl⟩
set_option maxRecDepth 100000 in
set_option maxHeartbeats 1600000 in
theorem isnode_any (g : Gv) (n : Nd) (w : World) (E : Env w) (G : GrIn w g) (K : KidsAt w n) (hn : n.txt.size ≤ 1000000) (hl : n.kids.length ≤ 1000000) (ht : ∀ m ∈ g.ns, m.txt.size ≤ 1000000) (hns : g.ns.length ≤ 4096) :
    Calls Tryd.prog 24 #[g.val, n.val] w (BoolPost (nodeB g.ns n) w) := by
  have TX : Hid (∀ W, Below w.heap.size w W → Calls Tryd.prog 35 #[.int .i64 n.kind, .string n.txt] W fun e w' => e = .returned (.bool (textB n.kind n.txt)) ∧ Hid (Below W.heap.size W w')) := fun W hb => istext_any _ _ _ (E.below hb) hn
  have SC : Hid (∀ k W, Calls Tryd.prog 36 #[.int .i64 k] W fun e w' => e = .returned (.bool (scalB k)) ∧ W = w') := fun k W => scalar_any k W
  have CT : Hid (∀ W, Below w.heap.size w W → W.cell? ⟨w.heap.size, 0, none⟩ = some (.slice g.A g.ns.length g.c) → Calls Tryd.prog 25 #[.slice n.ka n.kids.length n.kc, .func (.func 37) #[] #[.pointer (some ⟨w.heap.size, 0, none⟩)]] W fun e w' => e = .returned (.bool (n.kids.any (kidBad g.ns.length))) ∧ Hid (Below W.heap.size W w')) :=
    fun W hb hc => contains_kid n.ka n.kc w.heap.size n.kids (kidBad g.ns.length) W (K.below hb).row (by omega) (fun V i hi hV => kidbad_any _ g.A _ g.c _ V ((hV.cell (p := ⟨w.heap.size, 0, none⟩) (block_lt_of_cell hc)).trans hc))
  have KY : Hid (∀ W, Below w.heap.size w W → Calls Tryd.prog 26 #[n.val] W (KeysPost (keysN n) W)) := fun W hb => keys_any n W (K.below hb) hl
  have KM : Hid (∀ k ∈ keysN n, k ∈ n.kids) := fun k hk => keys_mem hk
  obtain ⟨A, c, ns, root⟩ := g
  obtain ⟨kind, txt, kids, ka, kc⟩ := n
  unfold nodeB Nd.val Gv.val at *
  simp only at *
  have HG := Lib.hid G
  have HK := Lib.hid K
  have HT := Lib.hid ht
  clear E G K ht
  have HZB : Hid ((keysN ⟨kind, txt, kids, ka, kc⟩).length ≤ 1000000) := Nat.le_trans (keysN_len _) hl
  generalize keysN ⟨kind, txt, kids, ka, kc⟩ = zs at KY KM HZB ⊢
  generalize textB kind txt = tb at TX ⊢
  generalize hab : kids.any (kidBad ns.length) = ab at CT ⊢
  have HAB := Lib.hid hab
  clear hab
  obtain ⟨L, hL⟩ : ∃ L, L = ns.length := ⟨_, rfl⟩
  obtain ⟨KL, hKL⟩ : ∃ KL, KL = kids.length := ⟨_, rfl⟩
  rw [← hL, ← hKL] at CT ⊢
  rw [← hKL] at KY hl
  rw [← hL] at HAB hns
  have HL := Lib.hid hL
  have HKL := Lib.hid hKL
  clear hL hKL
  have B1 : Hid (Below w.heap.size w (w.alloc (.cells #[.slice A L c, .int .i64 root] 24))) := ext_world w _
  have B2 : Hid (Below w.heap.size w ((w.alloc (.cells #[.slice A L c, .int .i64 root] 24)).alloc (.cells #[.int .i64 kind, .string txt, .slice ka KL kc] 38))) := B1.out.alloc (by simp) _
  obtain ⟨ko, hko⟩ : ∃ ko, ko = keysOk ns zs [] := ⟨_, rfl⟩
  rw [← hko]
  have HKO := Lib.hid hko
  clear hko
  obtain ⟨sc, hsc⟩ : ∃ sc, sc = scalB kind := ⟨_, rfl⟩
  have SCK : Hid (∀ W, Calls Tryd.prog 36 #[.int .i64 kind] W fun e w' => e = .returned (.bool sc) ∧ W = w') := by rw [hsc]; exact SC.out kind
  rw [← hsc]
  have HSC := Lib.hid hsc
  clear hsc
  by_cases h1 : 1 ≤ kind
  case neg =>
    rw [decide_eq_false h1]
    have h1I : kind < 1 := by omega
    go_enter Tryd.func24, Tryd.ntmps24
    go_wp2_with fail

    go_ret
    exact ⟨rfl, B2.out⟩
  by_cases h6 : kind ≤ 6
  case neg =>
    rw [decide_eq_false h6, decide_eq_true h1]
    have h1I : ¬ kind < 1 := by omega
    have h6I : 6 < kind := by omega
    go_enter Tryd.func24, Tryd.ntmps24
    go_wp2_with fail

    go_ret
    exact ⟨rfl, B2.out⟩
  have h1I : ¬ kind < 1 := by omega
  have h6I : ¬ 6 < kind := by omega
  rw [decide_eq_true h1, decide_eq_true h6]
  clear h1 h6
  cases tb
  case false =>
    go_enter Tryd.func24, Tryd.ntmps24
    go_wp2_with fail

    refine (TX.out _ B2.out).mono ?_
    rintro e w1 ⟨rfl, hb1⟩
    have C1 : Hid (Below w.heap.size w w1) := B2.out.trans (hb1.out.mono B2.out.size)
    have g1 : w1.cell? ⟨w.heap.size, 0, none⟩ = some (.slice A L c) := (hb1.out.cell (p := ⟨w.heap.size, 0, none⟩) (by simp; omega)).trans ((Below.cell (ext_world _ _) (p := ⟨w.heap.size, 0, none⟩) (by simp)).trans (bcell (heap_new w _ _) 0))
    have hs1 : (w.alloc (.cells #[.slice A L c, .int .i64 root] 24)).heap.size = w.heap.size + 1 := by simp
    have n0 : w1.cell? ⟨w.heap.size + 1, 0, none⟩ = some (.int .i64 kind) := (hb1.out.cell (p := ⟨w.heap.size + 1, 0, none⟩) (by simp)).trans (by have h9 := bcell (heap_new (w.alloc (.cells #[.slice A L c, .int .i64 root] 24)) #[.int .i64 kind, .string txt, .slice ka KL kc] 38) 0; rw [hs1] at h9; exact h9)
    have n1 : w1.cell? ⟨w.heap.size + 1, 1, none⟩ = some (.string txt) := (hb1.out.cell (p := ⟨w.heap.size + 1, 1, none⟩) (by simp)).trans (by have h9 := bcell (heap_new (w.alloc (.cells #[.slice A L c, .int .i64 root] 24)) #[.int .i64 kind, .string txt, .slice ka KL kc] 38) 1; rw [hs1] at h9; exact h9)
    have n2 : w1.cell? ⟨w.heap.size + 1, 2, none⟩ = some (.slice ka KL kc) := (hb1.out.cell (p := ⟨w.heap.size + 1, 2, none⟩) (by simp)).trans (by have h9 := bcell (heap_new (w.alloc (.cells #[.slice A L c, .int .i64 root] 24)) #[.int .i64 kind, .string txt, .slice ka KL kc] 38) 2; rw [hs1] at h9; exact h9)
    clear hb1 hs1
    go_wp2_with fail

    go_ret
    exact ⟨rfl, C1.out⟩
  cases sc
  case true =>
    by_cases hk0 : 0 < KL
    · rw [decide_eq_true hk0]
      have hk0I : (0 : Int) < (KL : Int) := by omega
      go_enter Tryd.func24, Tryd.ntmps24
      go_wp2_with fail

      refine (TX.out _ B2.out).mono ?_
      rintro e w1 ⟨rfl, hb1⟩
      have C1 : Hid (Below w.heap.size w w1) := B2.out.trans (hb1.out.mono B2.out.size)
      have g1 : w1.cell? ⟨w.heap.size, 0, none⟩ = some (.slice A L c) := (hb1.out.cell (p := ⟨w.heap.size, 0, none⟩) (by simp; omega)).trans ((Below.cell (ext_world _ _) (p := ⟨w.heap.size, 0, none⟩) (by simp)).trans (bcell (heap_new w _ _) 0))
      have hs1 : (w.alloc (.cells #[.slice A L c, .int .i64 root] 24)).heap.size = w.heap.size + 1 := by simp
      have n0 : w1.cell? ⟨w.heap.size + 1, 0, none⟩ = some (.int .i64 kind) := (hb1.out.cell (p := ⟨w.heap.size + 1, 0, none⟩) (by simp)).trans (by have h9 := bcell (heap_new (w.alloc (.cells #[.slice A L c, .int .i64 root] 24)) #[.int .i64 kind, .string txt, .slice ka KL kc] 38) 0; rw [hs1] at h9; exact h9)
      have n1 : w1.cell? ⟨w.heap.size + 1, 1, none⟩ = some (.string txt) := (hb1.out.cell (p := ⟨w.heap.size + 1, 1, none⟩) (by simp)).trans (by have h9 := bcell (heap_new (w.alloc (.cells #[.slice A L c, .int .i64 root] 24)) #[.int .i64 kind, .string txt, .slice ka KL kc] 38) 1; rw [hs1] at h9; exact h9)
      have n2 : w1.cell? ⟨w.heap.size + 1, 2, none⟩ = some (.slice ka KL kc) := (hb1.out.cell (p := ⟨w.heap.size + 1, 2, none⟩) (by simp)).trans (by have h9 := bcell (heap_new (w.alloc (.cells #[.slice A L c, .int .i64 root] 24)) #[.int .i64 kind, .string txt, .slice ka KL kc] 38) 2; rw [hs1] at h9; exact h9)
      clear hb1 hs1
      go_wp2_with fail

      refine (SCK.out _).mono ?_
      rintro e w1' ⟨rfl, rfl⟩
      go_wp2_with fail

      go_ret
      exact ⟨rfl, C1.out⟩
    · rw [decide_eq_false hk0]
      have hk0I : ¬ ((0 : Int) < (KL : Int)) := by omega
      have hk6 : kind ≠ 6 := by
        intro h
        subst h
        have := HSC.out
        simp [scalB] at this
      have hk6I : (kind == 6) = false := beq_eq_false_iff_ne.2 hk6
      rw [decide_eq_false hk6]
      cases ab
      case true =>
        go_enter Tryd.func24, Tryd.ntmps24
        go_wp2_with fail

        refine (TX.out _ B2.out).mono ?_
        rintro e w1 ⟨rfl, hb1⟩
        have C1 : Hid (Below w.heap.size w w1) := B2.out.trans (hb1.out.mono B2.out.size)
        have g1 : w1.cell? ⟨w.heap.size, 0, none⟩ = some (.slice A L c) := (hb1.out.cell (p := ⟨w.heap.size, 0, none⟩) (by simp; omega)).trans ((Below.cell (ext_world _ _) (p := ⟨w.heap.size, 0, none⟩) (by simp)).trans (bcell (heap_new w _ _) 0))
        have hs1 : (w.alloc (.cells #[.slice A L c, .int .i64 root] 24)).heap.size = w.heap.size + 1 := by simp
        have n0 : w1.cell? ⟨w.heap.size + 1, 0, none⟩ = some (.int .i64 kind) := (hb1.out.cell (p := ⟨w.heap.size + 1, 0, none⟩) (by simp)).trans (by have h9 := bcell (heap_new (w.alloc (.cells #[.slice A L c, .int .i64 root] 24)) #[.int .i64 kind, .string txt, .slice ka KL kc] 38) 0; rw [hs1] at h9; exact h9)
        have n1 : w1.cell? ⟨w.heap.size + 1, 1, none⟩ = some (.string txt) := (hb1.out.cell (p := ⟨w.heap.size + 1, 1, none⟩) (by simp)).trans (by have h9 := bcell (heap_new (w.alloc (.cells #[.slice A L c, .int .i64 root] 24)) #[.int .i64 kind, .string txt, .slice ka KL kc] 38) 1; rw [hs1] at h9; exact h9)
        have n2 : w1.cell? ⟨w.heap.size + 1, 2, none⟩ = some (.slice ka KL kc) := (hb1.out.cell (p := ⟨w.heap.size + 1, 2, none⟩) (by simp)).trans (by have h9 := bcell (heap_new (w.alloc (.cells #[.slice A L c, .int .i64 root] 24)) #[.int .i64 kind, .string txt, .slice ka KL kc] 38) 2; rw [hs1] at h9; exact h9)
        clear hb1 hs1
        go_wp2_with fail

        refine (SCK.out _).mono ?_
        rintro e w1' ⟨rfl, rfl⟩
        go_wp2_with fail

        refine (CT.out w1 C1.out g1).mono ?_
        rintro e w2 ⟨rfl, hb2⟩
        have C2 : Hid (Below w.heap.size w w2) := C1.out.trans (hb2.out.mono C1.out.size)
        have h01 : Hid (w.heap.size < w1.heap.size ∧ w.heap.size + 1 < w1.heap.size) := ⟨block_lt_of_cell g1, block_lt_of_cell n0⟩
        have g2 : w2.cell? ⟨w.heap.size, 0, none⟩ = some (.slice A L c) := (hb2.out.cell (p := ⟨w.heap.size, 0, none⟩) h01.out.1).trans g1
        have m0 : w2.cell? ⟨w.heap.size + 1, 0, none⟩ = some (.int .i64 kind) := (hb2.out.cell (p := ⟨w.heap.size + 1, 0, none⟩) h01.out.2).trans n0
        have m1 : w2.cell? ⟨w.heap.size + 1, 1, none⟩ = some (.string txt) := (hb2.out.cell (p := ⟨w.heap.size + 1, 1, none⟩) h01.out.2).trans n1
        have m2 : w2.cell? ⟨w.heap.size + 1, 2, none⟩ = some (.slice ka KL kc) := (hb2.out.cell (p := ⟨w.heap.size + 1, 2, none⟩) h01.out.2).trans n2
        clear hb2 g1 n0 n1 n2
        go_wp2_with fail
        go_ret
        exact ⟨rfl, C2.out⟩
      case false =>
        go_enter Tryd.func24, Tryd.ntmps24
        go_wp2_with fail

        refine (TX.out _ B2.out).mono ?_
        rintro e w1 ⟨rfl, hb1⟩
        have C1 : Hid (Below w.heap.size w w1) := B2.out.trans (hb1.out.mono B2.out.size)
        have g1 : w1.cell? ⟨w.heap.size, 0, none⟩ = some (.slice A L c) := (hb1.out.cell (p := ⟨w.heap.size, 0, none⟩) (by simp; omega)).trans ((Below.cell (ext_world _ _) (p := ⟨w.heap.size, 0, none⟩) (by simp)).trans (bcell (heap_new w _ _) 0))
        have hs1 : (w.alloc (.cells #[.slice A L c, .int .i64 root] 24)).heap.size = w.heap.size + 1 := by simp
        have n0 : w1.cell? ⟨w.heap.size + 1, 0, none⟩ = some (.int .i64 kind) := (hb1.out.cell (p := ⟨w.heap.size + 1, 0, none⟩) (by simp)).trans (by have h9 := bcell (heap_new (w.alloc (.cells #[.slice A L c, .int .i64 root] 24)) #[.int .i64 kind, .string txt, .slice ka KL kc] 38) 0; rw [hs1] at h9; exact h9)
        have n1 : w1.cell? ⟨w.heap.size + 1, 1, none⟩ = some (.string txt) := (hb1.out.cell (p := ⟨w.heap.size + 1, 1, none⟩) (by simp)).trans (by have h9 := bcell (heap_new (w.alloc (.cells #[.slice A L c, .int .i64 root] 24)) #[.int .i64 kind, .string txt, .slice ka KL kc] 38) 1; rw [hs1] at h9; exact h9)
        have n2 : w1.cell? ⟨w.heap.size + 1, 2, none⟩ = some (.slice ka KL kc) := (hb1.out.cell (p := ⟨w.heap.size + 1, 2, none⟩) (by simp)).trans (by have h9 := bcell (heap_new (w.alloc (.cells #[.slice A L c, .int .i64 root] 24)) #[.int .i64 kind, .string txt, .slice ka KL kc] 38) 2; rw [hs1] at h9; exact h9)
        clear hb1 hs1
        go_wp2_with fail

        refine (SCK.out _).mono ?_
        rintro e w1' ⟨rfl, rfl⟩
        go_wp2_with fail

        refine (CT.out w1 C1.out g1).mono ?_
        rintro e w2 ⟨rfl, hb2⟩
        have C2 : Hid (Below w.heap.size w w2) := C1.out.trans (hb2.out.mono C1.out.size)
        have h01 : Hid (w.heap.size < w1.heap.size ∧ w.heap.size + 1 < w1.heap.size) := ⟨block_lt_of_cell g1, block_lt_of_cell n0⟩
        have g2 : w2.cell? ⟨w.heap.size, 0, none⟩ = some (.slice A L c) := (hb2.out.cell (p := ⟨w.heap.size, 0, none⟩) h01.out.1).trans g1
        have m0 : w2.cell? ⟨w.heap.size + 1, 0, none⟩ = some (.int .i64 kind) := (hb2.out.cell (p := ⟨w.heap.size + 1, 0, none⟩) h01.out.2).trans n0
        have m1 : w2.cell? ⟨w.heap.size + 1, 1, none⟩ = some (.string txt) := (hb2.out.cell (p := ⟨w.heap.size + 1, 1, none⟩) h01.out.2).trans n1
        have m2 : w2.cell? ⟨w.heap.size + 1, 2, none⟩ = some (.slice ka KL kc) := (hb2.out.cell (p := ⟨w.heap.size + 1, 2, none⟩) h01.out.2).trans n2
        clear hb2 g1 n0 n1 n2

        obtain ⟨b, w3, hmk, m3, hb3, hbb⟩ := mk_set w2
        have C3 : Hid (Below w.heap.size w w3) := C2.out.trans (hb3.mono C2.out.size)
        have h02 : Hid (w.heap.size < w2.heap.size ∧ w.heap.size + 1 < w2.heap.size) := ⟨block_lt_of_cell g2, block_lt_of_cell m0⟩
        have g3 : w3.cell? ⟨w.heap.size, 0, none⟩ = some (.slice A L c) := (hb3.cell (p := ⟨w.heap.size, 0, none⟩) h02.out.1).trans g2
        have p0 : w3.cell? ⟨w.heap.size + 1, 0, none⟩ = some (.int .i64 kind) := (hb3.cell (p := ⟨w.heap.size + 1, 0, none⟩) h02.out.2).trans m0
        have p1 : w3.cell? ⟨w.heap.size + 1, 1, none⟩ = some (.string txt) := (hb3.cell (p := ⟨w.heap.size + 1, 1, none⟩) h02.out.2).trans m1
        have p2 : w3.cell? ⟨w.heap.size + 1, 2, none⟩ = some (.slice ka KL kc) := (hb3.cell (p := ⟨w.heap.size + 1, 2, none⟩) h02.out.2).trans m2
        have HBW : Hid (w.heap.size + 1 < b) := by have h9 := h02.out; rw [hbb]; exact h9.2
        have M3 := Lib.hid m3
        clear hb3 g2 m0 m1 m2 hbb m3
        go_wp2_with fail
        refine (KY.out w3 C3.out).mono ?_
        rintro e w4 ⟨A4, c4, rfl, hr4, hb4, hf4⟩
        have C4 : Hid (Below w.heap.size w w4) := C3.out.trans (hb4.mono C3.out.size)
        have M4 : Hid (MF w4 82 b 0 (fun _ => none)) := M3.out.below hb4
        have g4 : w4.cell? ⟨w.heap.size, 0, none⟩ = some (.slice A L c) := (hb4.cell (p := ⟨w.heap.size, 0, none⟩) (by have h9 := block_lt_of_cell g3; exact h9)).trans g3
        have HF4 : Hid (∀ p, A4 = some p → p.block ≠ b) := fun p hp => by have h8 := hf4 p hp; have h9 := M3.out.lt; omega
        have R4 := Lib.hid hr4
        clear hb4 hf4 hr4 g3 p0 p1 p2 hmk
        obtain ⟨ZL, hZL⟩ : ∃ ZL, ZL = zs.length := ⟨_, rfl⟩
        rw [← hZL]
        have HZL := Lib.hid hZL
        clear hZL
        have hzs : Hid (ZL ≤ 1000000) := by show _ ≤ _; rw [HZL.out]; exact HZB.out
        have hzl := hzs.out
        go_wp2_with fail
        go_loopw [54] (fun v wr => ∃ k : Nat, k ≤ ZL ∧ v = .int .i64 (k : Int) ∧ Hid (∃ f, MF wr 82 b k f ∧ SetIs f ((zs.take k).map (keyAt ns))) ∧ Hid (Below w.heap.size w wr) ∧ wr.cell? ⟨w.heap.size, 0, none⟩ = some (.slice A L c) ∧ Hid (Row wr A4 zs) ∧ Hid (ko = keysOk ns (zs.drop k) ((zs.take k).map (keyAt ns)))) (fun v _ => ZL - (intOf v).toNat)
        case atStart => exact ⟨0, Nat.zero_le _, rfl, ⟨_, M4.out, fun x => rfl⟩, C4.out, g4, R4.out, HKO.out⟩
        case round =>
          obtain ⟨k, hk, rfl, hmf, hb, gr, hrr, hko⟩ := hrel
          by_cases hlt : k < ZL
          · have hltI : (k : Int) < (ZL : Int) := by omega
            obtain ⟨b4, off4, hA4, hbl4, hc4⟩ := hrr.out k (by rw [← HZL.out]; exact hlt)
            have HX : Hid (zs.getD k 0 ∈ zs) := by
              show _ ∈ _
              rw [List.getD_eq_getElem?_getD, List.getElem?_eq_getElem (by rw [← HZL.out]; exact hlt)]
              exact List.getElem_mem _
            have HDR : Hid (zs.drop k = zs.getD k 0 :: zs.drop (k + 1)) := by
              show _ = _
              rw [List.drop_eq_getElem_cons (by rw [← HZL.out]; exact hlt), List.getD_eq_getElem?_getD, List.getElem?_eq_getElem (by rw [← HZL.out]; exact hlt)]
              rfl
            have HTK : Hid ((zs.take (k + 1)).map (keyAt ns) = (zs.take k).map (keyAt ns) ++ [keyAt ns (zs.getD k 0)]) := by
              show _ = _
              rw [List.take_succ_eq_append_getElem (by rw [← HZL.out]; exact hlt), List.map_append, List.getD_eq_getElem?_getD, List.getElem?_eq_getElem (by rw [← HZL.out]; exact hlt)]
              rfl
            rw [HDR.out] at hko
            generalize zs.getD k 0 = x at hc4 HX HDR HTK hko
            have HXR : Hid (0 ≤ x ∧ x < L) := by
              show _ ∧ _
              have h1 := List.any_eq_false.1 HAB.out x (KM.out x HX.out)
              simp [kidBad] at h1
              omega
            obtain ⟨xn, rfl⟩ : ∃ xn : Nat, x = (xn : Int) := ⟨x.toNat, by have := HXR.out; omega⟩
            have hxn : xn < L := by have := HXR.out; omega
            have hxI : (xn : Int) < (L : Int) := by omega
            obtain ⟨bg, og, hAg, hbg, hg0, hg1, hg2⟩ := (HG.out.below hb.out).get xn (by show xn < ns.length; rw [← HL.out]; exact hxn)
            have HKA : Hid (keyAt ns (xn : Int) = ((ns.getD xn nd0).kind, (ns.getD xn nd0).txt)) := rfl
            have HTX := HT.out (ns.getD xn nd0) (getD_memD (by rw [← HL.out]; exact hxn))
            have HWK : Hid (wf64 (ns.getD xn nd0).kind) := (HG.out.kids (ns.getD xn nd0) (getD_memD (by show xn < ns.length; rw [← HL.out]; exact hxn))).kwf
            simp only at hAg hg0 hg1 hg2
            have hko2 : Hid (ko = (scalB (keyAt ns (xn : Int)).1 && (!decide (keyAt ns (xn : Int) ∈ (zs.take k).map (keyAt ns)) && keysOk ns (zs.drop (k + 1)) ((zs.take k).map (keyAt ns) ++ [keyAt ns (xn : Int)])))) := hko.out
            clear hko
            rw [HKA.out] at hko2 HTK
            generalize ns.getD xn nd0 = nd at hg0 hg1 hg2 hko2 HTK HTX HWK
            obtain ⟨xk, xt, _, _, _⟩ := nd
            simp only at hg0 hg1 hg2 hko2 HTK HTX HWK
            clear HKA
            subst hAg hA4
            generalize (zs.take k).map (keyAt ns) = met at hmf hko2 HTK
            go_wp2_with fail
            go_region_held3 (fun w' => w'.cell? ⟨w.heap.size, 0, none⟩ = some (.slice (some ⟨bg, og, none⟩) L c) ∧ w'.cell? ⟨bg, og + xn * 3, none⟩ = some (.int .i64 xk) ∧ w'.cell? ⟨bg, og + xn * 3 + 1, none⟩ = some (.string xt))
              (go_keep)
              (first
                | (refine wpList_store_row rfl 82 _ _ rfl _ #[.int .i64 xk, .string xt] rfl rfl 82 _ (heap_new _ _ _) (by kernel_rfl) rfl (by simp [Value.oneCell']) ?_)
                | fail)
            have B5 : Hid (Below wr.heap.size wr (wr.alloc (.cells #[.int .i64 xk, .string xt] 82)).drew) := dr (ext_world wr _) 1
            have x0 : (wr.alloc (.cells #[.int .i64 xk, .string xt] 82)).drew.cell? ⟨wr.heap.size, 0, none⟩ = some (.int .i64 xk) := bcell (heap_new wr _ _) 0
            have x1 : (wr.alloc (.cells #[.int .i64 xk, .string xt] 82)).drew.cell? ⟨wr.heap.size, 1, none⟩ = some (.string xt) := bcell (heap_new wr _ _) 1
            generalize (wr.alloc (.cells #[.int .i64 xk, .string xt] 82)).drew = w5 at B5 x0 x1 ⊢
            have hbw := Lib.hid (block_lt_of_cell gr)
            have C5 : Hid (Below w.heap.size w w5) := hb.out.trans (B5.out.mono hb.out.size)
            have g5 : w5.cell? ⟨w.heap.size, 0, none⟩ = some (.slice (some ⟨bg, og, none⟩) L c) := (B5.out.cell (p := ⟨w.heap.size, 0, none⟩) hbw.out).trans gr
            have R5 : Hid (Row w5 (some ⟨b4, off4, none⟩) zs) := hrr.out.below B5.out
            have M5 : Hid (∃ f, MF w5 82 b k f ∧ SetIs f met) := by
              obtain ⟨f, h1, h2⟩ := hmf.out
              exact ⟨f, h1.below B5.out, h2⟩
            have KF : Hid (Below w.heap.size w w5 ∧ (∀ w6, w5.grownBy w6 (some b) → Below w.heap.size w w6 ∧ w6.cell? ⟨w.heap.size, 0, none⟩ = some (.slice (some ⟨bg, og, none⟩) L c) ∧ Row w6 (some ⟨b4, off4, none⟩) zs)) := by
              refine ⟨C5.out, fun w6 h6 => ⟨C5.out.grown h6 C5.out.size (fun j hj => by injection hj with hj; have h9 := HBW.out; omega), ?_, R5.out.kept h6 HF4.out⟩⟩
              exact h6.cell g5 (by intro e; injection e with e; have h9 := HBW.out; simp only at e; omega)
            have ADD : Hid (Calls Tryd.prog 38 #[.map (some b), .agg #[.int .i64 xk, .string xt]] w5 (AddPost b k met (xk, xt) w5)) := by
              obtain ⟨f, h1, h2⟩ := M5.out
              exact add_any b k f met (xk, xt) w5 h1 h2 (by unfold maxLen; omega) HWK.out (by unfold maxLen; exact Nat.le_trans HTX (by omega))
            have SCX : Hid (∀ W, Calls Tryd.prog 36 #[.int .i64 xk] W fun e w' => e = .returned (.bool (scalB xk)) ∧ W = w') := SC.out xk
            generalize scalB xk = sx at SCX hko2
            clear hmf gr hrr hg0 hg1 hg2 hc4
            go_wp2_with fail
            refine (SCX.out _).mono ?_
            rintro e w5' ⟨rfl, rfl⟩
            cases sx
            · have HKF : Hid (ko = false) := hko2.out
              go_wp2_with fail
              go_ret
              exact ⟨by rw [HKF.out]; rfl, C5.out⟩
            · go_wp2_with fail
              refine ADD.out.mono ?_
              rintro e w6 ⟨rfl, hf6, h6⟩
              have K6 := Lib.hid (KF.out.2 w6 h6)
              have g6 := K6.out.2.1
              by_cases hm : (xk, xt) ∈ met
              · rw [decide_eq_true hm] at hko2 ⊢
                have HKF : Hid (ko = false) := hko2.out
                clear hf6 h6 ADD KF
                go_wp2_with fail
                go_ret
                exact ⟨by rw [HKF.out]; rfl, K6.out.1⟩
              · rw [decide_eq_false hm] at hko2 ⊢
                have HKF : Hid (ko = keysOk ns (zs.drop (k + 1)) ((zs.take (k + 1)).map (keyAt ns))) := by
                  show _ = _
                  rw [HTK.out]
                  exact hko2.out
                have HF6 : Hid (∃ f, MF w6 82 b (k + 1) f ∧ SetIs f ((zs.take (k + 1)).map (keyAt ns))) := by
                  show ∃ _, _
                  rw [HTK.out]
                  exact hf6
                have HR6 : Hid (Row w6 (some ⟨b4, off4, none⟩) zs) := K6.out.2.2
                have HB6 : Hid (Below w.heap.size w w6) := K6.out.1
                clear hf6 h6 ADD KF hko2
                go_wp2_with fail
                go_roundw
                case rel => exact ⟨k + 1, by omega, by go_num, HF6.out, HB6.out, g6, HR6.out, HKF.out⟩
                case measure => simp [intOf]; omega
          · obtain rfl : k = ZL := by omega
            have hltI : ¬ ((k : Int) < (k : Int)) := by omega
            have HKF : Hid (ko = true) := by
              show _ = _
              rw [hko.out, List.drop_eq_nil_of_le (by rw [HZL.out]; exact Nat.le_refl _)]
              rfl
            go_wp2_with fail
            go_ret
            exact ⟨by rw [HKF.out]; rfl, hb.out⟩
  case false =>
    by_cases h6 : kind = 6
    · have hk6I : (kind == 6) = true := beq_iff_eq.2 h6
      rw [decide_eq_true h6]
      clear h6
      by_cases hodd : KL % 2 = 1
      · have hmI : ((KL : Int).tmod 2 == 0) = false := beq_eq_false_iff_ne.2 (by rw [show (2 : Int) = ((2 : Nat) : Int) from rfl, ← Int.ofNat_tmod]; omega)
        rw [decide_eq_true hodd]
        go_enter Tryd.func24, Tryd.ntmps24
        go_wp2_with fail

        refine (TX.out _ B2.out).mono ?_
        rintro e w1 ⟨rfl, hb1⟩
        have C1 : Hid (Below w.heap.size w w1) := B2.out.trans (hb1.out.mono B2.out.size)
        have g1 : w1.cell? ⟨w.heap.size, 0, none⟩ = some (.slice A L c) := (hb1.out.cell (p := ⟨w.heap.size, 0, none⟩) (by simp; omega)).trans ((Below.cell (ext_world _ _) (p := ⟨w.heap.size, 0, none⟩) (by simp)).trans (bcell (heap_new w _ _) 0))
        have hs1 : (w.alloc (.cells #[.slice A L c, .int .i64 root] 24)).heap.size = w.heap.size + 1 := by simp
        have n0 : w1.cell? ⟨w.heap.size + 1, 0, none⟩ = some (.int .i64 kind) := (hb1.out.cell (p := ⟨w.heap.size + 1, 0, none⟩) (by simp)).trans (by have h9 := bcell (heap_new (w.alloc (.cells #[.slice A L c, .int .i64 root] 24)) #[.int .i64 kind, .string txt, .slice ka KL kc] 38) 0; rw [hs1] at h9; exact h9)
        have n1 : w1.cell? ⟨w.heap.size + 1, 1, none⟩ = some (.string txt) := (hb1.out.cell (p := ⟨w.heap.size + 1, 1, none⟩) (by simp)).trans (by have h9 := bcell (heap_new (w.alloc (.cells #[.slice A L c, .int .i64 root] 24)) #[.int .i64 kind, .string txt, .slice ka KL kc] 38) 1; rw [hs1] at h9; exact h9)
        have n2 : w1.cell? ⟨w.heap.size + 1, 2, none⟩ = some (.slice ka KL kc) := (hb1.out.cell (p := ⟨w.heap.size + 1, 2, none⟩) (by simp)).trans (by have h9 := bcell (heap_new (w.alloc (.cells #[.slice A L c, .int .i64 root] 24)) #[.int .i64 kind, .string txt, .slice ka KL kc] 38) 2; rw [hs1] at h9; exact h9)
        clear hb1 hs1
        go_wp2_with fail

        refine (SCK.out _).mono ?_
        rintro e w1' ⟨rfl, rfl⟩
        go_wp2_with fail

        go_ret
        exact ⟨rfl, C1.out⟩
      · have hmI : ((KL : Int).tmod 2 == 0) = true := beq_iff_eq.2 (by rw [show (2 : Int) = ((2 : Nat) : Int) from rfl, ← Int.ofNat_tmod]; omega)
        rw [decide_eq_false hodd]
        cases ab
        case true =>
          go_enter Tryd.func24, Tryd.ntmps24
          go_wp2_with fail

          refine (TX.out _ B2.out).mono ?_
          rintro e w1 ⟨rfl, hb1⟩
          have C1 : Hid (Below w.heap.size w w1) := B2.out.trans (hb1.out.mono B2.out.size)
          have g1 : w1.cell? ⟨w.heap.size, 0, none⟩ = some (.slice A L c) := (hb1.out.cell (p := ⟨w.heap.size, 0, none⟩) (by simp; omega)).trans ((Below.cell (ext_world _ _) (p := ⟨w.heap.size, 0, none⟩) (by simp)).trans (bcell (heap_new w _ _) 0))
          have hs1 : (w.alloc (.cells #[.slice A L c, .int .i64 root] 24)).heap.size = w.heap.size + 1 := by simp
          have n0 : w1.cell? ⟨w.heap.size + 1, 0, none⟩ = some (.int .i64 kind) := (hb1.out.cell (p := ⟨w.heap.size + 1, 0, none⟩) (by simp)).trans (by have h9 := bcell (heap_new (w.alloc (.cells #[.slice A L c, .int .i64 root] 24)) #[.int .i64 kind, .string txt, .slice ka KL kc] 38) 0; rw [hs1] at h9; exact h9)
          have n1 : w1.cell? ⟨w.heap.size + 1, 1, none⟩ = some (.string txt) := (hb1.out.cell (p := ⟨w.heap.size + 1, 1, none⟩) (by simp)).trans (by have h9 := bcell (heap_new (w.alloc (.cells #[.slice A L c, .int .i64 root] 24)) #[.int .i64 kind, .string txt, .slice ka KL kc] 38) 1; rw [hs1] at h9; exact h9)
          have n2 : w1.cell? ⟨w.heap.size + 1, 2, none⟩ = some (.slice ka KL kc) := (hb1.out.cell (p := ⟨w.heap.size + 1, 2, none⟩) (by simp)).trans (by have h9 := bcell (heap_new (w.alloc (.cells #[.slice A L c, .int .i64 root] 24)) #[.int .i64 kind, .string txt, .slice ka KL kc] 38) 2; rw [hs1] at h9; exact h9)
          clear hb1 hs1
          go_wp2_with fail

          refine (SCK.out _).mono ?_
          rintro e w1' ⟨rfl, rfl⟩
          go_wp2_with fail

          refine (CT.out w1 C1.out g1).mono ?_
          rintro e w2 ⟨rfl, hb2⟩
          have C2 : Hid (Below w.heap.size w w2) := C1.out.trans (hb2.out.mono C1.out.size)
          have h01 : Hid (w.heap.size < w1.heap.size ∧ w.heap.size + 1 < w1.heap.size) := ⟨block_lt_of_cell g1, block_lt_of_cell n0⟩
          have g2 : w2.cell? ⟨w.heap.size, 0, none⟩ = some (.slice A L c) := (hb2.out.cell (p := ⟨w.heap.size, 0, none⟩) h01.out.1).trans g1
          have m0 : w2.cell? ⟨w.heap.size + 1, 0, none⟩ = some (.int .i64 kind) := (hb2.out.cell (p := ⟨w.heap.size + 1, 0, none⟩) h01.out.2).trans n0
          have m1 : w2.cell? ⟨w.heap.size + 1, 1, none⟩ = some (.string txt) := (hb2.out.cell (p := ⟨w.heap.size + 1, 1, none⟩) h01.out.2).trans n1
          have m2 : w2.cell? ⟨w.heap.size + 1, 2, none⟩ = some (.slice ka KL kc) := (hb2.out.cell (p := ⟨w.heap.size + 1, 2, none⟩) h01.out.2).trans n2
          clear hb2 g1 n0 n1 n2
          go_wp2_with fail
          go_ret
          exact ⟨rfl, C2.out⟩
        case false =>
          go_enter Tryd.func24, Tryd.ntmps24
          go_wp2_with fail

          refine (TX.out _ B2.out).mono ?_
          rintro e w1 ⟨rfl, hb1⟩
          have C1 : Hid (Below w.heap.size w w1) := B2.out.trans (hb1.out.mono B2.out.size)
          have g1 : w1.cell? ⟨w.heap.size, 0, none⟩ = some (.slice A L c) := (hb1.out.cell (p := ⟨w.heap.size, 0, none⟩) (by simp; omega)).trans ((Below.cell (ext_world _ _) (p := ⟨w.heap.size, 0, none⟩) (by simp)).trans (bcell (heap_new w _ _) 0))
          have hs1 : (w.alloc (.cells #[.slice A L c, .int .i64 root] 24)).heap.size = w.heap.size + 1 := by simp
          have n0 : w1.cell? ⟨w.heap.size + 1, 0, none⟩ = some (.int .i64 kind) := (hb1.out.cell (p := ⟨w.heap.size + 1, 0, none⟩) (by simp)).trans (by have h9 := bcell (heap_new (w.alloc (.cells #[.slice A L c, .int .i64 root] 24)) #[.int .i64 kind, .string txt, .slice ka KL kc] 38) 0; rw [hs1] at h9; exact h9)
          have n1 : w1.cell? ⟨w.heap.size + 1, 1, none⟩ = some (.string txt) := (hb1.out.cell (p := ⟨w.heap.size + 1, 1, none⟩) (by simp)).trans (by have h9 := bcell (heap_new (w.alloc (.cells #[.slice A L c, .int .i64 root] 24)) #[.int .i64 kind, .string txt, .slice ka KL kc] 38) 1; rw [hs1] at h9; exact h9)
          have n2 : w1.cell? ⟨w.heap.size + 1, 2, none⟩ = some (.slice ka KL kc) := (hb1.out.cell (p := ⟨w.heap.size + 1, 2, none⟩) (by simp)).trans (by have h9 := bcell (heap_new (w.alloc (.cells #[.slice A L c, .int .i64 root] 24)) #[.int .i64 kind, .string txt, .slice ka KL kc] 38) 2; rw [hs1] at h9; exact h9)
          clear hb1 hs1
          go_wp2_with fail

          refine (SCK.out _).mono ?_
          rintro e w1' ⟨rfl, rfl⟩
          go_wp2_with fail

          refine (CT.out w1 C1.out g1).mono ?_
          rintro e w2 ⟨rfl, hb2⟩
          have C2 : Hid (Below w.heap.size w w2) := C1.out.trans (hb2.out.mono C1.out.size)
          have h01 : Hid (w.heap.size < w1.heap.size ∧ w.heap.size + 1 < w1.heap.size) := ⟨block_lt_of_cell g1, block_lt_of_cell n0⟩
          have g2 : w2.cell? ⟨w.heap.size, 0, none⟩ = some (.slice A L c) := (hb2.out.cell (p := ⟨w.heap.size, 0, none⟩) h01.out.1).trans g1
          have m0 : w2.cell? ⟨w.heap.size + 1, 0, none⟩ = some (.int .i64 kind) := (hb2.out.cell (p := ⟨w.heap.size + 1, 0, none⟩) h01.out.2).trans n0
          have m1 : w2.cell? ⟨w.heap.size + 1, 1, none⟩ = some (.string txt) := (hb2.out.cell (p := ⟨w.heap.size + 1, 1, none⟩) h01.out.2).trans n1
          have m2 : w2.cell? ⟨w.heap.size + 1, 2, none⟩ = some (.slice ka KL kc) := (hb2.out.cell (p := ⟨w.heap.size + 1, 2, none⟩) h01.out.2).trans n2
          clear hb2 g1 n0 n1 n2

          obtain ⟨b, w3, hmk, m3, hb3, hbb⟩ := mk_set w2
          have C3 : Hid (Below w.heap.size w w3) := C2.out.trans (hb3.mono C2.out.size)
          have h02 : Hid (w.heap.size < w2.heap.size ∧ w.heap.size + 1 < w2.heap.size) := ⟨block_lt_of_cell g2, block_lt_of_cell m0⟩
          have g3 : w3.cell? ⟨w.heap.size, 0, none⟩ = some (.slice A L c) := (hb3.cell (p := ⟨w.heap.size, 0, none⟩) h02.out.1).trans g2
          have p0 : w3.cell? ⟨w.heap.size + 1, 0, none⟩ = some (.int .i64 kind) := (hb3.cell (p := ⟨w.heap.size + 1, 0, none⟩) h02.out.2).trans m0
          have p1 : w3.cell? ⟨w.heap.size + 1, 1, none⟩ = some (.string txt) := (hb3.cell (p := ⟨w.heap.size + 1, 1, none⟩) h02.out.2).trans m1
          have p2 : w3.cell? ⟨w.heap.size + 1, 2, none⟩ = some (.slice ka KL kc) := (hb3.cell (p := ⟨w.heap.size + 1, 2, none⟩) h02.out.2).trans m2
          have HBW : Hid (w.heap.size + 1 < b) := by have h9 := h02.out; rw [hbb]; exact h9.2
          have M3 := Lib.hid m3
          clear hb3 g2 m0 m1 m2 hbb m3
          go_wp2_with fail
          refine (KY.out w3 C3.out).mono ?_
          rintro e w4 ⟨A4, c4, rfl, hr4, hb4, hf4⟩
          have C4 : Hid (Below w.heap.size w w4) := C3.out.trans (hb4.mono C3.out.size)
          have M4 : Hid (MF w4 82 b 0 (fun _ => none)) := M3.out.below hb4
          have g4 : w4.cell? ⟨w.heap.size, 0, none⟩ = some (.slice A L c) := (hb4.cell (p := ⟨w.heap.size, 0, none⟩) (by have h9 := block_lt_of_cell g3; exact h9)).trans g3
          have HF4 : Hid (∀ p, A4 = some p → p.block ≠ b) := fun p hp => by have h8 := hf4 p hp; have h9 := M3.out.lt; omega
          have R4 := Lib.hid hr4
          clear hb4 hf4 hr4 g3 p0 p1 p2 hmk
          obtain ⟨ZL, hZL⟩ : ∃ ZL, ZL = zs.length := ⟨_, rfl⟩
          rw [← hZL]
          have HZL := Lib.hid hZL
          clear hZL
          have hzs : Hid (ZL ≤ 1000000) := by show _ ≤ _; rw [HZL.out]; exact HZB.out
          have hzl := hzs.out
          go_wp2_with fail
          go_loopw [54] (fun v wr => ∃ k : Nat, k ≤ ZL ∧ v = .int .i64 (k : Int) ∧ Hid (∃ f, MF wr 82 b k f ∧ SetIs f ((zs.take k).map (keyAt ns))) ∧ Hid (Below w.heap.size w wr) ∧ wr.cell? ⟨w.heap.size, 0, none⟩ = some (.slice A L c) ∧ Hid (Row wr A4 zs) ∧ Hid (ko = keysOk ns (zs.drop k) ((zs.take k).map (keyAt ns)))) (fun v _ => ZL - (intOf v).toNat)
          case atStart => exact ⟨0, Nat.zero_le _, rfl, ⟨_, M4.out, fun x => rfl⟩, C4.out, g4, R4.out, HKO.out⟩
          case round =>
            obtain ⟨k, hk, rfl, hmf, hb, gr, hrr, hko⟩ := hrel
            by_cases hlt : k < ZL
            · have hltI : (k : Int) < (ZL : Int) := by omega
              obtain ⟨b4, off4, hA4, hbl4, hc4⟩ := hrr.out k (by rw [← HZL.out]; exact hlt)
              have HX : Hid (zs.getD k 0 ∈ zs) := by
                show _ ∈ _
                rw [List.getD_eq_getElem?_getD, List.getElem?_eq_getElem (by rw [← HZL.out]; exact hlt)]
                exact List.getElem_mem _
              have HDR : Hid (zs.drop k = zs.getD k 0 :: zs.drop (k + 1)) := by
                show _ = _
                rw [List.drop_eq_getElem_cons (by rw [← HZL.out]; exact hlt), List.getD_eq_getElem?_getD, List.getElem?_eq_getElem (by rw [← HZL.out]; exact hlt)]
                rfl
              have HTK : Hid ((zs.take (k + 1)).map (keyAt ns) = (zs.take k).map (keyAt ns) ++ [keyAt ns (zs.getD k 0)]) := by
                show _ = _
                rw [List.take_succ_eq_append_getElem (by rw [← HZL.out]; exact hlt), List.map_append, List.getD_eq_getElem?_getD, List.getElem?_eq_getElem (by rw [← HZL.out]; exact hlt)]
                rfl
              rw [HDR.out] at hko
              generalize zs.getD k 0 = x at hc4 HX HDR HTK hko
              have HXR : Hid (0 ≤ x ∧ x < L) := by
                show _ ∧ _
                have h1 := List.any_eq_false.1 HAB.out x (KM.out x HX.out)
                simp [kidBad] at h1
                omega
              obtain ⟨xn, rfl⟩ : ∃ xn : Nat, x = (xn : Int) := ⟨x.toNat, by have := HXR.out; omega⟩
              have hxn : xn < L := by have := HXR.out; omega
              have hxI : (xn : Int) < (L : Int) := by omega
              obtain ⟨bg, og, hAg, hbg, hg0, hg1, hg2⟩ := (HG.out.below hb.out).get xn (by show xn < ns.length; rw [← HL.out]; exact hxn)
              have HKA : Hid (keyAt ns (xn : Int) = ((ns.getD xn nd0).kind, (ns.getD xn nd0).txt)) := rfl
              have HTX := HT.out (ns.getD xn nd0) (getD_memD (by rw [← HL.out]; exact hxn))
              have HWK : Hid (wf64 (ns.getD xn nd0).kind) := (HG.out.kids (ns.getD xn nd0) (getD_memD (by show xn < ns.length; rw [← HL.out]; exact hxn))).kwf
              simp only at hAg hg0 hg1 hg2
              have hko2 : Hid (ko = (scalB (keyAt ns (xn : Int)).1 && (!decide (keyAt ns (xn : Int) ∈ (zs.take k).map (keyAt ns)) && keysOk ns (zs.drop (k + 1)) ((zs.take k).map (keyAt ns) ++ [keyAt ns (xn : Int)])))) := hko.out
              clear hko
              rw [HKA.out] at hko2 HTK
              generalize ns.getD xn nd0 = nd at hg0 hg1 hg2 hko2 HTK HTX HWK
              obtain ⟨xk, xt, _, _, _⟩ := nd
              simp only at hg0 hg1 hg2 hko2 HTK HTX HWK
              clear HKA
              subst hAg hA4
              generalize (zs.take k).map (keyAt ns) = met at hmf hko2 HTK
              go_wp2_with fail
              go_region_held3 (fun w' => w'.cell? ⟨w.heap.size, 0, none⟩ = some (.slice (some ⟨bg, og, none⟩) L c) ∧ w'.cell? ⟨bg, og + xn * 3, none⟩ = some (.int .i64 xk) ∧ w'.cell? ⟨bg, og + xn * 3 + 1, none⟩ = some (.string xt))
                (go_keep)
                (first
                  | (refine wpList_store_row rfl 82 _ _ rfl _ #[.int .i64 xk, .string xt] rfl rfl 82 _ (heap_new _ _ _) (by kernel_rfl) rfl (by simp [Value.oneCell']) ?_)
                  | fail)
              have B5 : Hid (Below wr.heap.size wr (wr.alloc (.cells #[.int .i64 xk, .string xt] 82)).drew) := dr (ext_world wr _) 1
              have x0 : (wr.alloc (.cells #[.int .i64 xk, .string xt] 82)).drew.cell? ⟨wr.heap.size, 0, none⟩ = some (.int .i64 xk) := bcell (heap_new wr _ _) 0
              have x1 : (wr.alloc (.cells #[.int .i64 xk, .string xt] 82)).drew.cell? ⟨wr.heap.size, 1, none⟩ = some (.string xt) := bcell (heap_new wr _ _) 1
              generalize (wr.alloc (.cells #[.int .i64 xk, .string xt] 82)).drew = w5 at B5 x0 x1 ⊢
              have hbw := Lib.hid (block_lt_of_cell gr)
              have C5 : Hid (Below w.heap.size w w5) := hb.out.trans (B5.out.mono hb.out.size)
              have g5 : w5.cell? ⟨w.heap.size, 0, none⟩ = some (.slice (some ⟨bg, og, none⟩) L c) := (B5.out.cell (p := ⟨w.heap.size, 0, none⟩) hbw.out).trans gr
              have R5 : Hid (Row w5 (some ⟨b4, off4, none⟩) zs) := hrr.out.below B5.out
              have M5 : Hid (∃ f, MF w5 82 b k f ∧ SetIs f met) := by
                obtain ⟨f, h1, h2⟩ := hmf.out
                exact ⟨f, h1.below B5.out, h2⟩
              have KF : Hid (Below w.heap.size w w5 ∧ (∀ w6, w5.grownBy w6 (some b) → Below w.heap.size w w6 ∧ w6.cell? ⟨w.heap.size, 0, none⟩ = some (.slice (some ⟨bg, og, none⟩) L c) ∧ Row w6 (some ⟨b4, off4, none⟩) zs)) := by
                refine ⟨C5.out, fun w6 h6 => ⟨C5.out.grown h6 C5.out.size (fun j hj => by injection hj with hj; have h9 := HBW.out; omega), ?_, R5.out.kept h6 HF4.out⟩⟩
                exact h6.cell g5 (by intro e; injection e with e; have h9 := HBW.out; simp only at e; omega)
              have ADD : Hid (Calls Tryd.prog 38 #[.map (some b), .agg #[.int .i64 xk, .string xt]] w5 (AddPost b k met (xk, xt) w5)) := by
                obtain ⟨f, h1, h2⟩ := M5.out
                exact add_any b k f met (xk, xt) w5 h1 h2 (by unfold maxLen; omega) HWK.out (by unfold maxLen; exact Nat.le_trans HTX (by omega))
              have SCX : Hid (∀ W, Calls Tryd.prog 36 #[.int .i64 xk] W fun e w' => e = .returned (.bool (scalB xk)) ∧ W = w') := SC.out xk
              generalize scalB xk = sx at SCX hko2
              clear hmf gr hrr hg0 hg1 hg2 hc4
              go_wp2_with fail
              refine (SCX.out _).mono ?_
              rintro e w5' ⟨rfl, rfl⟩
              cases sx
              · have HKF : Hid (ko = false) := hko2.out
                go_wp2_with fail
                go_ret
                exact ⟨by rw [HKF.out]; rfl, C5.out⟩
              · go_wp2_with fail
                refine ADD.out.mono ?_
                rintro e w6 ⟨rfl, hf6, h6⟩
                have K6 := Lib.hid (KF.out.2 w6 h6)
                have g6 := K6.out.2.1
                by_cases hm : (xk, xt) ∈ met
                · rw [decide_eq_true hm] at hko2 ⊢
                  have HKF : Hid (ko = false) := hko2.out
                  clear hf6 h6 ADD KF
                  go_wp2_with fail
                  go_ret
                  exact ⟨by rw [HKF.out]; rfl, K6.out.1⟩
                · rw [decide_eq_false hm] at hko2 ⊢
                  have HKF : Hid (ko = keysOk ns (zs.drop (k + 1)) ((zs.take (k + 1)).map (keyAt ns))) := by
                    show _ = _
                    rw [HTK.out]
                    exact hko2.out
                  have HF6 : Hid (∃ f, MF w6 82 b (k + 1) f ∧ SetIs f ((zs.take (k + 1)).map (keyAt ns))) := by
                    show ∃ _, _
                    rw [HTK.out]
                    exact hf6
                  have HR6 : Hid (Row w6 (some ⟨b4, off4, none⟩) zs) := K6.out.2.2
                  have HB6 : Hid (Below w.heap.size w w6) := K6.out.1
                  clear hf6 h6 ADD KF hko2
                  go_wp2_with fail
                  go_roundw
                  case rel => exact ⟨k + 1, by omega, by go_num, HF6.out, HB6.out, g6, HR6.out, HKF.out⟩
                  case measure => simp [intOf]; omega
            · obtain rfl : k = ZL := by omega
              have hltI : ¬ ((k : Int) < (k : Int)) := by omega
              have HKF : Hid (ko = true) := by
                show _ = _
                rw [hko.out, List.drop_eq_nil_of_le (by rw [HZL.out]; exact Nat.le_refl _)]
                rfl
              go_wp2_with fail
              go_ret
              exact ⟨by rw [HKF.out]; rfl, hb.out⟩
    · have hk6I : (kind == 6) = false := beq_eq_false_iff_ne.2 h6
      rw [decide_eq_false h6]
      cases ab
      case true =>
        go_enter Tryd.func24, Tryd.ntmps24
        go_wp2_with fail

        refine (TX.out _ B2.out).mono ?_
        rintro e w1 ⟨rfl, hb1⟩
        have C1 : Hid (Below w.heap.size w w1) := B2.out.trans (hb1.out.mono B2.out.size)
        have g1 : w1.cell? ⟨w.heap.size, 0, none⟩ = some (.slice A L c) := (hb1.out.cell (p := ⟨w.heap.size, 0, none⟩) (by simp; omega)).trans ((Below.cell (ext_world _ _) (p := ⟨w.heap.size, 0, none⟩) (by simp)).trans (bcell (heap_new w _ _) 0))
        have hs1 : (w.alloc (.cells #[.slice A L c, .int .i64 root] 24)).heap.size = w.heap.size + 1 := by simp
        have n0 : w1.cell? ⟨w.heap.size + 1, 0, none⟩ = some (.int .i64 kind) := (hb1.out.cell (p := ⟨w.heap.size + 1, 0, none⟩) (by simp)).trans (by have h9 := bcell (heap_new (w.alloc (.cells #[.slice A L c, .int .i64 root] 24)) #[.int .i64 kind, .string txt, .slice ka KL kc] 38) 0; rw [hs1] at h9; exact h9)
        have n1 : w1.cell? ⟨w.heap.size + 1, 1, none⟩ = some (.string txt) := (hb1.out.cell (p := ⟨w.heap.size + 1, 1, none⟩) (by simp)).trans (by have h9 := bcell (heap_new (w.alloc (.cells #[.slice A L c, .int .i64 root] 24)) #[.int .i64 kind, .string txt, .slice ka KL kc] 38) 1; rw [hs1] at h9; exact h9)
        have n2 : w1.cell? ⟨w.heap.size + 1, 2, none⟩ = some (.slice ka KL kc) := (hb1.out.cell (p := ⟨w.heap.size + 1, 2, none⟩) (by simp)).trans (by have h9 := bcell (heap_new (w.alloc (.cells #[.slice A L c, .int .i64 root] 24)) #[.int .i64 kind, .string txt, .slice ka KL kc] 38) 2; rw [hs1] at h9; exact h9)
        clear hb1 hs1
        go_wp2_with fail

        refine (SCK.out _).mono ?_
        rintro e w1' ⟨rfl, rfl⟩
        go_wp2_with fail

        refine (CT.out w1 C1.out g1).mono ?_
        rintro e w2 ⟨rfl, hb2⟩
        have C2 : Hid (Below w.heap.size w w2) := C1.out.trans (hb2.out.mono C1.out.size)
        have h01 : Hid (w.heap.size < w1.heap.size ∧ w.heap.size + 1 < w1.heap.size) := ⟨block_lt_of_cell g1, block_lt_of_cell n0⟩
        have g2 : w2.cell? ⟨w.heap.size, 0, none⟩ = some (.slice A L c) := (hb2.out.cell (p := ⟨w.heap.size, 0, none⟩) h01.out.1).trans g1
        have m0 : w2.cell? ⟨w.heap.size + 1, 0, none⟩ = some (.int .i64 kind) := (hb2.out.cell (p := ⟨w.heap.size + 1, 0, none⟩) h01.out.2).trans n0
        have m1 : w2.cell? ⟨w.heap.size + 1, 1, none⟩ = some (.string txt) := (hb2.out.cell (p := ⟨w.heap.size + 1, 1, none⟩) h01.out.2).trans n1
        have m2 : w2.cell? ⟨w.heap.size + 1, 2, none⟩ = some (.slice ka KL kc) := (hb2.out.cell (p := ⟨w.heap.size + 1, 2, none⟩) h01.out.2).trans n2
        clear hb2 g1 n0 n1 n2
        go_wp2_with fail
        go_ret
        exact ⟨rfl, C2.out⟩
      case false =>
        go_enter Tryd.func24, Tryd.ntmps24
        go_wp2_with fail

        refine (TX.out _ B2.out).mono ?_
        rintro e w1 ⟨rfl, hb1⟩
        have C1 : Hid (Below w.heap.size w w1) := B2.out.trans (hb1.out.mono B2.out.size)
        have g1 : w1.cell? ⟨w.heap.size, 0, none⟩ = some (.slice A L c) := (hb1.out.cell (p := ⟨w.heap.size, 0, none⟩) (by simp; omega)).trans ((Below.cell (ext_world _ _) (p := ⟨w.heap.size, 0, none⟩) (by simp)).trans (bcell (heap_new w _ _) 0))
        have hs1 : (w.alloc (.cells #[.slice A L c, .int .i64 root] 24)).heap.size = w.heap.size + 1 := by simp
        have n0 : w1.cell? ⟨w.heap.size + 1, 0, none⟩ = some (.int .i64 kind) := (hb1.out.cell (p := ⟨w.heap.size + 1, 0, none⟩) (by simp)).trans (by have h9 := bcell (heap_new (w.alloc (.cells #[.slice A L c, .int .i64 root] 24)) #[.int .i64 kind, .string txt, .slice ka KL kc] 38) 0; rw [hs1] at h9; exact h9)
        have n1 : w1.cell? ⟨w.heap.size + 1, 1, none⟩ = some (.string txt) := (hb1.out.cell (p := ⟨w.heap.size + 1, 1, none⟩) (by simp)).trans (by have h9 := bcell (heap_new (w.alloc (.cells #[.slice A L c, .int .i64 root] 24)) #[.int .i64 kind, .string txt, .slice ka KL kc] 38) 1; rw [hs1] at h9; exact h9)
        have n2 : w1.cell? ⟨w.heap.size + 1, 2, none⟩ = some (.slice ka KL kc) := (hb1.out.cell (p := ⟨w.heap.size + 1, 2, none⟩) (by simp)).trans (by have h9 := bcell (heap_new (w.alloc (.cells #[.slice A L c, .int .i64 root] 24)) #[.int .i64 kind, .string txt, .slice ka KL kc] 38) 2; rw [hs1] at h9; exact h9)
        clear hb1 hs1
        go_wp2_with fail

        refine (SCK.out _).mono ?_
        rintro e w1' ⟨rfl, rfl⟩
        go_wp2_with fail

        refine (CT.out w1 C1.out g1).mono ?_
        rintro e w2 ⟨rfl, hb2⟩
        have C2 : Hid (Below w.heap.size w w2) := C1.out.trans (hb2.out.mono C1.out.size)
        have h01 : Hid (w.heap.size < w1.heap.size ∧ w.heap.size + 1 < w1.heap.size) := ⟨block_lt_of_cell g1, block_lt_of_cell n0⟩
        have g2 : w2.cell? ⟨w.heap.size, 0, none⟩ = some (.slice A L c) := (hb2.out.cell (p := ⟨w.heap.size, 0, none⟩) h01.out.1).trans g1
        have m0 : w2.cell? ⟨w.heap.size + 1, 0, none⟩ = some (.int .i64 kind) := (hb2.out.cell (p := ⟨w.heap.size + 1, 0, none⟩) h01.out.2).trans n0
        have m1 : w2.cell? ⟨w.heap.size + 1, 1, none⟩ = some (.string txt) := (hb2.out.cell (p := ⟨w.heap.size + 1, 1, none⟩) h01.out.2).trans n1
        have m2 : w2.cell? ⟨w.heap.size + 1, 2, none⟩ = some (.slice ka KL kc) := (hb2.out.cell (p := ⟨w.heap.size + 1, 2, none⟩) h01.out.2).trans n2
        clear hb2 g1 n0 n1 n2

        obtain ⟨b, w3, hmk, m3, hb3, hbb⟩ := mk_set w2
        have C3 : Hid (Below w.heap.size w w3) := C2.out.trans (hb3.mono C2.out.size)
        have h02 : Hid (w.heap.size < w2.heap.size ∧ w.heap.size + 1 < w2.heap.size) := ⟨block_lt_of_cell g2, block_lt_of_cell m0⟩
        have g3 : w3.cell? ⟨w.heap.size, 0, none⟩ = some (.slice A L c) := (hb3.cell (p := ⟨w.heap.size, 0, none⟩) h02.out.1).trans g2
        have p0 : w3.cell? ⟨w.heap.size + 1, 0, none⟩ = some (.int .i64 kind) := (hb3.cell (p := ⟨w.heap.size + 1, 0, none⟩) h02.out.2).trans m0
        have p1 : w3.cell? ⟨w.heap.size + 1, 1, none⟩ = some (.string txt) := (hb3.cell (p := ⟨w.heap.size + 1, 1, none⟩) h02.out.2).trans m1
        have p2 : w3.cell? ⟨w.heap.size + 1, 2, none⟩ = some (.slice ka KL kc) := (hb3.cell (p := ⟨w.heap.size + 1, 2, none⟩) h02.out.2).trans m2
        have HBW : Hid (w.heap.size + 1 < b) := by have h9 := h02.out; rw [hbb]; exact h9.2
        have M3 := Lib.hid m3
        clear hb3 g2 m0 m1 m2 hbb m3
        go_wp2_with fail
        refine (KY.out w3 C3.out).mono ?_
        rintro e w4 ⟨A4, c4, rfl, hr4, hb4, hf4⟩
        have C4 : Hid (Below w.heap.size w w4) := C3.out.trans (hb4.mono C3.out.size)
        have M4 : Hid (MF w4 82 b 0 (fun _ => none)) := M3.out.below hb4
        have g4 : w4.cell? ⟨w.heap.size, 0, none⟩ = some (.slice A L c) := (hb4.cell (p := ⟨w.heap.size, 0, none⟩) (by have h9 := block_lt_of_cell g3; exact h9)).trans g3
        have HF4 : Hid (∀ p, A4 = some p → p.block ≠ b) := fun p hp => by have h8 := hf4 p hp; have h9 := M3.out.lt; omega
        have R4 := Lib.hid hr4
        clear hb4 hf4 hr4 g3 p0 p1 p2 hmk
        obtain ⟨ZL, hZL⟩ : ∃ ZL, ZL = zs.length := ⟨_, rfl⟩
        rw [← hZL]
        have HZL := Lib.hid hZL
        clear hZL
        have hzs : Hid (ZL ≤ 1000000) := by show _ ≤ _; rw [HZL.out]; exact HZB.out
        have hzl := hzs.out
        go_wp2_with fail
        go_loopw [54] (fun v wr => ∃ k : Nat, k ≤ ZL ∧ v = .int .i64 (k : Int) ∧ Hid (∃ f, MF wr 82 b k f ∧ SetIs f ((zs.take k).map (keyAt ns))) ∧ Hid (Below w.heap.size w wr) ∧ wr.cell? ⟨w.heap.size, 0, none⟩ = some (.slice A L c) ∧ Hid (Row wr A4 zs) ∧ Hid (ko = keysOk ns (zs.drop k) ((zs.take k).map (keyAt ns)))) (fun v _ => ZL - (intOf v).toNat)
        case atStart => exact ⟨0, Nat.zero_le _, rfl, ⟨_, M4.out, fun x => rfl⟩, C4.out, g4, R4.out, HKO.out⟩
        case round =>
          obtain ⟨k, hk, rfl, hmf, hb, gr, hrr, hko⟩ := hrel
          by_cases hlt : k < ZL
          · have hltI : (k : Int) < (ZL : Int) := by omega
            obtain ⟨b4, off4, hA4, hbl4, hc4⟩ := hrr.out k (by rw [← HZL.out]; exact hlt)
            have HX : Hid (zs.getD k 0 ∈ zs) := by
              show _ ∈ _
              rw [List.getD_eq_getElem?_getD, List.getElem?_eq_getElem (by rw [← HZL.out]; exact hlt)]
              exact List.getElem_mem _
            have HDR : Hid (zs.drop k = zs.getD k 0 :: zs.drop (k + 1)) := by
              show _ = _
              rw [List.drop_eq_getElem_cons (by rw [← HZL.out]; exact hlt), List.getD_eq_getElem?_getD, List.getElem?_eq_getElem (by rw [← HZL.out]; exact hlt)]
              rfl
            have HTK : Hid ((zs.take (k + 1)).map (keyAt ns) = (zs.take k).map (keyAt ns) ++ [keyAt ns (zs.getD k 0)]) := by
              show _ = _
              rw [List.take_succ_eq_append_getElem (by rw [← HZL.out]; exact hlt), List.map_append, List.getD_eq_getElem?_getD, List.getElem?_eq_getElem (by rw [← HZL.out]; exact hlt)]
              rfl
            rw [HDR.out] at hko
            generalize zs.getD k 0 = x at hc4 HX HDR HTK hko
            have HXR : Hid (0 ≤ x ∧ x < L) := by
              show _ ∧ _
              have h1 := List.any_eq_false.1 HAB.out x (KM.out x HX.out)
              simp [kidBad] at h1
              omega
            obtain ⟨xn, rfl⟩ : ∃ xn : Nat, x = (xn : Int) := ⟨x.toNat, by have := HXR.out; omega⟩
            have hxn : xn < L := by have := HXR.out; omega
            have hxI : (xn : Int) < (L : Int) := by omega
            obtain ⟨bg, og, hAg, hbg, hg0, hg1, hg2⟩ := (HG.out.below hb.out).get xn (by show xn < ns.length; rw [← HL.out]; exact hxn)
            have HKA : Hid (keyAt ns (xn : Int) = ((ns.getD xn nd0).kind, (ns.getD xn nd0).txt)) := rfl
            have HTX := HT.out (ns.getD xn nd0) (getD_memD (by rw [← HL.out]; exact hxn))
            have HWK : Hid (wf64 (ns.getD xn nd0).kind) := (HG.out.kids (ns.getD xn nd0) (getD_memD (by show xn < ns.length; rw [← HL.out]; exact hxn))).kwf
            simp only at hAg hg0 hg1 hg2
            have hko2 : Hid (ko = (scalB (keyAt ns (xn : Int)).1 && (!decide (keyAt ns (xn : Int) ∈ (zs.take k).map (keyAt ns)) && keysOk ns (zs.drop (k + 1)) ((zs.take k).map (keyAt ns) ++ [keyAt ns (xn : Int)])))) := hko.out
            clear hko
            rw [HKA.out] at hko2 HTK
            generalize ns.getD xn nd0 = nd at hg0 hg1 hg2 hko2 HTK HTX HWK
            obtain ⟨xk, xt, _, _, _⟩ := nd
            simp only at hg0 hg1 hg2 hko2 HTK HTX HWK
            clear HKA
            subst hAg hA4
            generalize (zs.take k).map (keyAt ns) = met at hmf hko2 HTK
            go_wp2_with fail
            go_region_held3 (fun w' => w'.cell? ⟨w.heap.size, 0, none⟩ = some (.slice (some ⟨bg, og, none⟩) L c) ∧ w'.cell? ⟨bg, og + xn * 3, none⟩ = some (.int .i64 xk) ∧ w'.cell? ⟨bg, og + xn * 3 + 1, none⟩ = some (.string xt))
              (go_keep)
              (first
                | (refine wpList_store_row rfl 82 _ _ rfl _ #[.int .i64 xk, .string xt] rfl rfl 82 _ (heap_new _ _ _) (by kernel_rfl) rfl (by simp [Value.oneCell']) ?_)
                | fail)
            have B5 : Hid (Below wr.heap.size wr (wr.alloc (.cells #[.int .i64 xk, .string xt] 82)).drew) := dr (ext_world wr _) 1
            have x0 : (wr.alloc (.cells #[.int .i64 xk, .string xt] 82)).drew.cell? ⟨wr.heap.size, 0, none⟩ = some (.int .i64 xk) := bcell (heap_new wr _ _) 0
            have x1 : (wr.alloc (.cells #[.int .i64 xk, .string xt] 82)).drew.cell? ⟨wr.heap.size, 1, none⟩ = some (.string xt) := bcell (heap_new wr _ _) 1
            generalize (wr.alloc (.cells #[.int .i64 xk, .string xt] 82)).drew = w5 at B5 x0 x1 ⊢
            have hbw := Lib.hid (block_lt_of_cell gr)
            have C5 : Hid (Below w.heap.size w w5) := hb.out.trans (B5.out.mono hb.out.size)
            have g5 : w5.cell? ⟨w.heap.size, 0, none⟩ = some (.slice (some ⟨bg, og, none⟩) L c) := (B5.out.cell (p := ⟨w.heap.size, 0, none⟩) hbw.out).trans gr
            have R5 : Hid (Row w5 (some ⟨b4, off4, none⟩) zs) := hrr.out.below B5.out
            have M5 : Hid (∃ f, MF w5 82 b k f ∧ SetIs f met) := by
              obtain ⟨f, h1, h2⟩ := hmf.out
              exact ⟨f, h1.below B5.out, h2⟩
            have KF : Hid (Below w.heap.size w w5 ∧ (∀ w6, w5.grownBy w6 (some b) → Below w.heap.size w w6 ∧ w6.cell? ⟨w.heap.size, 0, none⟩ = some (.slice (some ⟨bg, og, none⟩) L c) ∧ Row w6 (some ⟨b4, off4, none⟩) zs)) := by
              refine ⟨C5.out, fun w6 h6 => ⟨C5.out.grown h6 C5.out.size (fun j hj => by injection hj with hj; have h9 := HBW.out; omega), ?_, R5.out.kept h6 HF4.out⟩⟩
              exact h6.cell g5 (by intro e; injection e with e; have h9 := HBW.out; simp only at e; omega)
            have ADD : Hid (Calls Tryd.prog 38 #[.map (some b), .agg #[.int .i64 xk, .string xt]] w5 (AddPost b k met (xk, xt) w5)) := by
              obtain ⟨f, h1, h2⟩ := M5.out
              exact add_any b k f met (xk, xt) w5 h1 h2 (by unfold maxLen; omega) HWK.out (by unfold maxLen; exact Nat.le_trans HTX (by omega))
            have SCX : Hid (∀ W, Calls Tryd.prog 36 #[.int .i64 xk] W fun e w' => e = .returned (.bool (scalB xk)) ∧ W = w') := SC.out xk
            generalize scalB xk = sx at SCX hko2
            clear hmf gr hrr hg0 hg1 hg2 hc4
            go_wp2_with fail
            refine (SCX.out _).mono ?_
            rintro e w5' ⟨rfl, rfl⟩
            cases sx
            · have HKF : Hid (ko = false) := hko2.out
              go_wp2_with fail
              go_ret
              exact ⟨by rw [HKF.out]; rfl, C5.out⟩
            · go_wp2_with fail
              refine ADD.out.mono ?_
              rintro e w6 ⟨rfl, hf6, h6⟩
              have K6 := Lib.hid (KF.out.2 w6 h6)
              have g6 := K6.out.2.1
              by_cases hm : (xk, xt) ∈ met
              · rw [decide_eq_true hm] at hko2 ⊢
                have HKF : Hid (ko = false) := hko2.out
                clear hf6 h6 ADD KF
                go_wp2_with fail
                go_ret
                exact ⟨by rw [HKF.out]; rfl, K6.out.1⟩
              · rw [decide_eq_false hm] at hko2 ⊢
                have HKF : Hid (ko = keysOk ns (zs.drop (k + 1)) ((zs.take (k + 1)).map (keyAt ns))) := by
                  show _ = _
                  rw [HTK.out]
                  exact hko2.out
                have HF6 : Hid (∃ f, MF w6 82 b (k + 1) f ∧ SetIs f ((zs.take (k + 1)).map (keyAt ns))) := by
                  show ∃ _, _
                  rw [HTK.out]
                  exact hf6
                have HR6 : Hid (Row w6 (some ⟨b4, off4, none⟩) zs) := K6.out.2.2
                have HB6 : Hid (Below w.heap.size w w6) := K6.out.1
                clear hf6 h6 ADD KF hko2
                go_wp2_with fail
                go_roundw
                case rel => exact ⟨k + 1, by omega, by go_num, HF6.out, HB6.out, g6, HR6.out, HKF.out⟩
                case measure => simp [intOf]; omega
          · obtain rfl : k = ZL := by omega
            have hltI : ¬ ((k : Int) < (k : Int)) := by omega
            have HKF : Hid (ko = true) := by
              show _ = _
              rw [hko.out, List.drop_eq_nil_of_le (by rw [HZL.out]; exact Nat.le_refl _)]
              rfl
            go_wp2_with fail
            go_ret
            exact ⟨by rw [HKF.out]; rfl, hb.out⟩
end Go.Proofs.YtpgncjfmaeiaaaaDoor.Is
