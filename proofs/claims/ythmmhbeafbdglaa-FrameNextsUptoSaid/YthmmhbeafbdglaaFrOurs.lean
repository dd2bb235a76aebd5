import Derived.Test.YthmmhbeafbdglaaFrSame
namespace Go.Proofs.Ythmmhbeafbdglaa
open Go.RowKit
theorem frameCells_take (fs : List FrN) (k : Nat) (h : k < fs.length) : frameCells (fs.take (k + 1)) = frameCells (fs.take k) ++ (fs.getD k default).cells := by
  have e : fs.getD k default = fs[k] := by simp [List.getD_eq_getElem?_getD, h]
  rw [List.take_succ_eq_append_getElem h, e]
  simp only [frameCells, List.flatMap_append, List.flatMap_cons, List.flatMap_nil, List.append_nil]
set_option maxHeartbeats 800000 in
theorem ours_any (R : Option Addr) (fs : List FrN) (c : Nat) (w : World) (g : ScanGot w R fs) (hl : fs.length ≤ 1000000000) :
    Calls Try.prog 32 #[.slice R fs.length c] w fun e w' => ∃ R' c', e = .returned (.slice R' fs.length c') ∧ Below w.heap.size w w' ∧ ScanGot w' R' fs := by
  obtain ⟨i0, hi, hz0, hz1, hz2⟩ := info_parts infoFrR
  have G := Lib.hid g
  clear g
  go_enter Try.func32, Try.ntmps32
  go_wp2_with fail
  go_loopw [3, 8] (fun v i wr => ∃ k : Nat, k ≤ fs.length ∧ i = .int .i64 k ∧ Hid (Below w.heap.size w wr ∧ wr.ownsRow w.heap.size 37 2 v k (frameCells (fs.take k)))) (fun _ i _ => fs.length - (intOf i).toNat)
  case atStart => exact ⟨0, Nat.zero_le _, rfl, Below.refl _ _, by simp [frameCells, World.ownsRow]⟩
  case round =>
    obtain ⟨k, hk, rfl, hr⟩ := hrel
    have HB := Lib.hid hr.out.1
    have gr := G.out.below hr.out.1
    by_cases hlt : k < fs.length
    · obtain ⟨b, hR, hbl, hc0, hc1⟩ := gr.cell k hlt
      subst hR
      have HT := Lib.hid (frameCells_take fs k hlt)
      have HO := Lib.hid hr.out.2
      generalize fs.getD k default = f at hc0 hc1 HT
      obtain ⟨fq, fA, fc, fb⟩ := f
      replace hc0 : wr.cell? ⟨b, k * 2, none⟩ = some (.int .i64 (fq : Nat)) := by rw [Nat.mul_comm]; exact hc0
      replace hc1 : wr.cell? ⟨b, k * 2 + 1, none⟩ = some (.slice fA fb.length fc) := by rw [Nat.mul_comm]; exact hc1
      generalize frameCells (fs.take k) = L at HT HO
      clear gr hr
      go_wp2_with (at_builtin; refine wpList_append_own _ rfl _ _ 59 rfl w.heap.size 37 i0 (.agg #[.int .i64 0, .slice none 0 0]) 2 32 Try.underlying59 hi hz0 hz1 hz2 rfl (by decide) u3 k L rfl (own_below (own_below HO.out ((Below.refl _ _).alloc (Nat.le_refl _) _)) ((Below.refl _ _).alloc (Nat.le_refl _) _)) ⟨wr.heap.size + 1, 0, none⟩ 1 1 [.int .i64 (fq : Nat), .slice fA fb.length fc] rfl rfl ?c1 ?c2 ?c3 ?c4 ?c5 ?_)
      case c1 =>
        intro j u hu
        rcases j with _ | _ | j
        · simp at hu; subst hu; simp [Addr.add]
        · simp at hu; subst hu; simp [Addr.add]
        · simp at hu
      case c2 => simp [Value.oneCell']
      case c3 => unfold maxLen; omega
      case c4 => omega
      case c5 => have := HB.out.size; simp; omega
      intro v' w4 hown hgrow _
      have HB4 : Hid (Below w.heap.size w w4) := (HB.out.trans ((((Below.refl _ _).alloc (Nat.le_refl _) _).alloc (by simp) _).mono HB.out.size)).grown hgrow (by have := HB.out.size; simp; omega) (own_block_le HO.out)
      have HO4 : Hid (w4.ownsRow w.heap.size 37 2 v' (k + 1) (frameCells (fs.take (k + 1)))) := by
        show w4.ownsRow _ _ _ _ _ _
        rw [HT.out]; exact hown
      clear hown hgrow HO
      go_wp2_with fail
      go_roundw
      case rel => exact ⟨k + 1, by omega, by go_num, HB4.out, HO4.out⟩
      case measure => simp [intOf]; omega
    · obtain rfl : k = fs.length := by omega
      have HO := Lib.hid hr.out.2
      rw [List.take_length] at HO
      clear gr hr
      go_wp2_with fail
      go_ret
      obtain ⟨R', c', hv, hg⟩ := ScanGot.own HO.out (fun f hf => ((G.out.below HB.out).each f hf))
      exact ⟨R', c', congrArg Ending.returned hv, HB.out, hg⟩
theorem pairs_at {fs gs : List FrN} (h : fs.map FrN.pair = gs.map FrN.pair) (i : Nat) : (fs.getD i default).seq = (gs.getD i default).seq ∧ (fs.getD i default).bs = (gs.getD i default).bs := by
  have e := congrArg (fun l => l[i]?) h
  simp only [List.getElem?_map] at e
  rw [List.getD_eq_getElem?_getD, List.getD_eq_getElem?_getD]
  cases h1 : fs[i]? with
  | none => rw [h1] at e; cases h2 : gs[i]? with
    | none => exact ⟨rfl, rfl⟩
    | some b => rw [h2] at e; cases e
  | some a => rw [h1] at e; cases h2 : gs[i]? with
    | none => rw [h2] at e; cases e
    | some b =>
      rw [h2] at e
      simp only [Option.map_some, FrN.pair, Option.some.injEq, Prod.mk.injEq] at e
      exact e
set_option maxHeartbeats 800000 in
theorem rsame_any (R R' : Option Addr) (fs gs : List FrN) (c c' : Nat) (w : World) (g : ScanGot w R fs) (g' : ScanGot w R' gs) (h : fs.map FrN.pair = gs.map FrN.pair) (hl : fs.length ≤ 1000000000) :
    Calls Try.prog 31 #[.slice R fs.length c, .slice R' gs.length c'] w fun e w' => e = .returned (.bool true) ∧ Below w.heap.size w w' := by
  have hlen : gs.length = fs.length := by have := congrArg List.length h; simpa using this.symm
  have HLN := Lib.hid hlen
  have hbn : ((fs.length : Int) != (fs.length : Int)) = false := by simp
  have P := Lib.hid (pairs_at h)
  have G := Lib.hid g
  have G' := Lib.hid g'
  rw [hlen]
  clear g g' h hlen
  go_enter Try.func31, Try.ntmps31
  go_wp2_with fail
  go_loopw [5] (fun i wr => ∃ k : Nat, k ≤ fs.length ∧ i = .int .i64 k ∧ ∃ n, wr = w.drewN n) (fun i _ => fs.length - (intOf i).toNat)
  case atStart => exact ⟨0, Nat.zero_le _, rfl, 0, rfl⟩
  case round =>
    obtain ⟨k, hk, rfl, n, rfl⟩ := hrel
    by_cases hlt : k < fs.length
    · obtain ⟨b, hR, hbl, hc0, hc1⟩ := G.out.cell k hlt
      obtain ⟨b', hR', hbl', hd0, hd1⟩ := G'.out.cell k (by rw [HLN.out]; exact hlt)
      subst hR hR'
      obtain ⟨p1, p2⟩ := P.out k
      have hmem : fs.getD k default ∈ fs := by rw [List.getD_eq_getElem?_getD, List.getElem?_eq_getElem hlt]; exact List.getElem_mem hlt
      have hmem' : gs.getD k default ∈ gs := by rw [List.getD_eq_getElem?_getD, List.getElem?_eq_getElem (by rw [HLN.out]; exact hlt)]; exact List.getElem_mem _
      have gb := G.out.each _ hmem
      have gb' := G'.out.each _ hmem'
      generalize fs.getD k default = f at hc0 hc1 gb p1 p2
      generalize gs.getD k default = f' at hd0 hd1 gb' p1 p2
      obtain ⟨fq, fA, fc, fb⟩ := f
      obtain ⟨fq', fA', fc', fb'⟩ := f'
      simp only at p1 p2 gb gb'
      subst p1 p2
      rw [Nat.mul_comm] at hc0 hc1 hd0 hd1
      replace hc0 : w.cell? ⟨b, k * 2, none⟩ = some (.int .i64 (fq : Nat)) := hc0
      replace hc1 : w.cell? ⟨b, k * 2 + 1, none⟩ = some (.slice fA fb.length fc) := hc1
      replace hd0 : w.cell? ⟨b', k * 2, none⟩ = some (.int .i64 (fq : Nat)) := hd0
      replace hd1 : w.cell? ⟨b', k * 2 + 1, none⟩ = some (.slice fA' fb.length fc') := hd1
      have hq : ((fq : Int) != (fq : Int)) = false := by simp
      have kx : ∀ m, (convert 28 9 (.slice fA fb.length fc)).run Try.prog (w.drewN m) = .ok (.string (strOf fb)) (w.drewN m) := fun m => conv_bytes fA fc fb (w.drewN m) gb.at_
      have ky : ∀ m, (convert 28 9 (.slice fA' fb.length fc')).run Try.prog (w.drewN m) = .ok (.string (strOf fb)) (w.drewN m) := fun m => conv_bytes fA' fc' fb (w.drewN m) gb'.at_
      have hs := strList_self (strOf fb)
      have hs2 : (!(strOf fb).toList == (strOf fb).toList) = false := by rw [hs]; rfl
      generalize strOf fb = str at kx ky hs hs2
      have h1 : (0 : Int) ≤ (k : Int) := by omega
      have h2 : (k : Int) < (fs.length : Int) := by omega
      clear gb gb' hmem hmem'
      go_wp2_with fail
      go_quiet (fail)
      go_wp2_with fail
      go_roundw
      case rel => exact ⟨k + 1, by omega, by go_num, _, rfl⟩
      case measure => simp [intOf]; omega
    · obtain rfl : k = fs.length := by omega
      go_wp2_with fail
      go_ret
      exact ⟨rfl, below_ddrewN (Below.refl _ _) _⟩
end Go.Proofs.Ythmmhbeafbdglaa
