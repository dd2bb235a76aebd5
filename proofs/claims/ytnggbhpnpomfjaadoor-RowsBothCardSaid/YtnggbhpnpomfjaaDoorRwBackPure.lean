/- Plain laws: rows that were read, and written, are read as they were; a text of whole lines and another one have the lines of both. Conditions: none; no program's walk. -/
import Derived.Test.YtnggbhpnpomfjaaDoorRwWrite
set_option linter.unusedVariables false
namespace Go.Proofs.YtnggbhpnpomfjaaDoor.Rw
open Go.RowKit Bl
theorem split_both : ∀ (s t : List UInt8), splitT (s ++ 10 :: t) = splitT s ++ splitT t
  | [], t => by simp [splitT]
  | c :: s, t => by
    have ih := split_both s t
    have hne := splitT_ne s
    rw [List.cons_append, show splitT (c :: (s ++ 10 :: t)) = if c = 10 then [] :: splitT (s ++ 10 :: t) else (c :: (splitT (s ++ 10 :: t)).headD []) :: (splitT (s ++ 10 :: t)).tail from rfl,
      show splitT (c :: s) = if c = 10 then [] :: splitT s else (c :: (splitT s).headD []) :: (splitT s).tail from rfl, ih]
    cases hs : splitT s with
    | nil => exact absurd hs hne
    | cons y r =>
      by_cases hc : c = 10
      · simp [hc]
      · simp [hc]
theorem lines_both (s t : List UInt8) : linesL (s ++ 10 :: t) = linesL (s ++ [10]) ++ linesL t := by
  have hne := splitT_ne t
  unfold linesL
  rw [split_both s t, split_both s []]
  rw [show splitT [] = [[]] from rfl, List.dropLast_concat, List.dropLast_append_of_ne_nil hne]
  have h1 : (splitT s ++ splitT t).getLastD [] = (splitT t).getLastD [] := by
    rw [List.getLastD_eq_getLast?, List.getLastD_eq_getLast?, List.getLast?_append]
    rw [List.getLast?_eq_some_getLast hne]; rfl
  have h2 : (splitT s ++ [[]]).getLastD [] = ([] : List UInt8) := by simp
  rw [h1, h2]
  simp
/-- texts of lines, each with its end -/
theorem lines_of : ∀ (Y : List (List UInt8)), (∀ y ∈ Y, 10 ∉ y ∧ cut13 y = y) → linesL (Y.flatMap (· ++ [10])) = Y
  | [], _ => rfl
  | y :: Y, h => by
    have ih := lines_of Y (fun z hz => h z (by simp [hz]))
    obtain ⟨h1, h2⟩ := h y (by simp)
    rw [List.flatMap_cons, List.append_assoc, List.singleton_append, lines_both, ih]
    have : linesL (y ++ [10]) = [y] := by
      unfold linesL
      rw [splitT_first y [] h1]
      show _ = _
      simp [splitT, h2]
    rw [this]
    rfl
/-- a sign whose bytes end with a blank is the blank -/
theorem enc_blank {n : Int} (hn : signB n = true) {p : List UInt8} (h : Lib.encodeRune n = p ++ [32]) : p = [] := by
  obtain ⟨h0, h1, h2⟩ := signB_iff.1 hn
  have key : ∀ q : List UInt8, q ++ [(128 + n % 64).toNat.toUInt8] = p ++ [32] → False := fun q hq => by
    have hl := congrArg List.getLast? hq
    rw [List.getLast?_concat, List.getLast?_concat] at hl
    have h3 := congrArg UInt8.toNat (Option.some.inj hl)
    rw [byte_toNat (z := 128 + n % 64) (by omega) (by omega)] at h3
    have : (32 : UInt8).toNat = 32 := rfl
    omega
  unfold Lib.encodeRune at h
  by_cases c1 : n ≤ 127
  · rw [Lib.encodeRuneZ_one h0 c1] at h
    have hl := congrArg List.length h
    rw [List.length_append] at hl
    simp only [List.map_cons, List.map_nil, List.length_cons, List.length_nil] at hl
    exact List.length_eq_zero_iff.1 (by omega)
  · exfalso
    by_cases c2 : n ≤ 2047
    · rw [Lib.encodeRuneZ_two (by omega) c2] at h
      exact key [_] h
    · by_cases c3 : n ≤ 65535
      · rw [Lib.encodeRuneZ_three (by omega)] at h
        exact key [_, _] h
      · rw [Lib.encodeRuneZ_four (by omega) h1] at h
        exact key [_, _, _] h
theorem trimR_idem (l : List UInt8) : Lib.trimRightB (Lib.trimRightB l 32) 32 = Lib.trimRightB l 32 := by
  unfold Lib.trimRightB
  rw [List.reverse_reverse]
  congr 1
  have : ∀ m : List UInt8, (m.dropWhile (· == 32)).dropWhile (· == 32) = m.dropWhile (· == 32) := by
    intro m
    induction m with
    | nil => rfl
    | cons c m ih =>
      by_cases h : (c == 32) = true
      · rw [List.dropWhile_cons_of_pos (p := fun x : UInt8 => x == 32) h]; exact ih
      · rw [List.dropWhile_cons_of_neg (p := fun x : UInt8 => x == 32) h, List.dropWhile_cons_of_neg (p := fun x : UInt8 => x == 32) h]
  exact this _
theorem trimR_all (l : List UInt8) : ∃ m, l = Lib.trimRightB l 32 ++ List.replicate m 32 := by
  unfold Lib.trimRightB
  have h2 := List.takeWhile_append_dropWhile (p := fun c : UInt8 => c == 32) (l := l.reverse)
  have h1 : l.reverse.takeWhile (fun c => c == 32) = List.replicate (l.reverse.takeWhile (fun c => c == 32)).length 32 := by
    rw [List.eq_replicate_iff]
    refine ⟨rfl, fun c hc => ?_⟩
    have := List.all_takeWhile (p := fun c : UInt8 => c == 32) (l := l.reverse)
    rw [List.all_eq_true] at this
    simpa using this c hc
  refine ⟨(l.reverse.takeWhile (fun c => c == 32)).length, ?_⟩
  have h3 := congrArg List.reverse h2
  rw [List.reverse_append, List.reverse_reverse, h1, List.reverse_replicate] at h3
  exact h3.symm
/-- a printable text without the blanks at its end is printable -/
theorem walk_short {y : List UInt8} : ∀ m, (walkL printB (y ++ List.replicate m 32)).2 = (y ++ List.replicate m 32).length → (walkL printB y).2 = y.length
  | 0, h => by simpa using h
  | m + 1, h => by
    rw [List.replicate_succ', ← List.append_assoc] at h
    refine walk_short m ?_
    generalize y ++ List.replicate m 32 = x at h ⊢
    obtain ⟨h1, h2⟩ := walk_whole (p := printB) (fun n hn => printB_pos hn) (x ++ [32]).length (x ++ [32]) (Nat.le_refl _)
    rw [h, List.take_length] at h1
    generalize (walkL printB (x ++ [32])).1 = ns at h1 h2
    rcases List.eq_nil_or_concat ns with rfl | ⟨ms, n, rfl⟩
    · simp [encL] at h1
    · rw [List.concat_eq_append] at h1 h2
      rw [encL_append, show encL [n] = Lib.encodeRune n by simp [encL]] at h1
      have hs := (h2 n (by simp)).1
      have hne := encodeRune_ne n
      have h3 := List.dropLast_concat_getLast hne
      have h4 : (Lib.encodeRune n).getLast hne = 32 := by
        have := congrArg List.getLast? h1
        rw [List.getLast?_append, List.getLast?_append, List.getLast?_eq_some_getLast hne] at this
        simpa using this
      rw [h4] at h3
      have h5 := enc_blank hs h3.symm
      rw [h5, List.nil_append] at h3
      rw [← h3] at h1
      have h6 : encL ms = x := List.append_cancel_right h1
      have h7 := walk_enc (p := printB) [] ms (fun k hk => h2 k (by simp [hk]))
      rw [List.append_nil, h6, walkL_nil] at h7
      rw [h7]; rfl
theorem lines_no (l : List UInt8) : ∀ x ∈ linesL l, 10 ∉ x := by
  intro x hx
  unfold linesL at hx
  rcases List.mem_append.1 hx with h | h
  · obtain ⟨y, hy, rfl⟩ := List.mem_map.1 h
    have h1 := split_no l y (List.dropLast_subset _ hy)
    unfold cut13 Lib.trimSuffix
    split
    · exact fun hm => h1 (List.mem_of_mem_take hm)
    · exact h1
  · split at h
    · cases h
    · have : x = (splitT l).getLastD [] := by simpa using h
      rw [this]; exact last_no l
/-- a line as it is written -/
def asW (x : List UInt8) : List UInt8 := List.replicate (blanks x) 32 ++ textN x
theorem blanks_rep (b : Nat) : blanks (List.replicate b 32) = b := by
  unfold blanks
  rw [List.takeWhile_replicate]
  simp
theorem asW_parts (x : List UInt8) : blanks (asW x) = blanks x ∧ textN (asW x) = textN x ∧ ∃ m, x = asW x ++ List.replicate m 32 := by
  have hx := blanks_all x
  have ht : textN x = Lib.trimRightB (x.drop (blanks x)) 32 := by unfold textN; rw [trim_drop]
  obtain ⟨m, hm⟩ := trimR_all (x.drop (blanks x))
  have h3 : ∃ m, x = asW x ++ List.replicate m 32 := ⟨m, by
    unfold asW
    rw [ht, List.append_assoc, ← hm]
    exact hx⟩
  have hb : blanks (asW x) = blanks x := by
    cases hd : x.drop (blanks x) with
    | nil =>
      have : textN x = [] := by rw [ht, hd]; rfl
      unfold asW
      rw [this, List.append_nil, blanks_rep]
    | cons c r =>
      have hc : c ≠ 32 := by
        intro e
        subst e
        have hlt : blanks x < x.length := by
          rcases Nat.lt_or_ge (blanks x) x.length with h | h
          · exact h
          · rw [List.drop_of_length_le h] at hd; cases hd
        have h1 : (x.dropWhile (fun c => c == 32)).head? = some 32 := by
          have h2 : x.dropWhile (fun c => c == 32) = x.drop (blanks x) := trim_drop x
          rw [h2, hd]; rfl
        have := List.head?_dropWhile_not (fun c : UInt8 => c == 32) x
        rw [h1] at this
        simp at this
      have hne : textN x ≠ [] := by
        intro e
        rw [ht] at e
        rw [e, List.nil_append, hd] at hm
        cases m with
        | zero => simp at hm
        | succ m => rw [List.replicate_succ] at hm; exact hc (List.cons.inj hm).1
      obtain ⟨d, q, hq⟩ : ∃ d q, textN x = d :: q := by
        cases h : textN x with
        | nil => exact absurd h hne
        | cons d q => exact ⟨d, q, rfl⟩
      have hdc : d = c := by
        rw [ht] at hq
        rw [hq, hd] at hm
        exact (List.cons.inj hm).1.symm
      unfold asW
      rw [hq, hdc]
      refine blanks_step (fun i hi => ?_) ?_
      · rw [List.getElem?_append_left (by simpa using hi), List.getElem?_replicate, if_pos hi]
      · rw [List.getElem?_append_right (by simp)]
        simpa using hc
  refine ⟨hb, ?_, h3⟩
  have e1 : textN (asW x) = Lib.trimRightB ((asW x).drop (blanks (asW x))) 32 := by show Lib.trimRightB (Lib.trimLeftB (asW x) 32) 32 = _; rw [trim_drop]
  rw [e1, hb]
  unfold asW
  have : (List.replicate (blanks x) 32 ++ textN x).drop (blanks x) = textN x := by
    have := List.drop_left (l₁ := List.replicate (blanks x) (32 : UInt8)) (l₂ := textN x)
    rwa [List.length_replicate] at this
  rw [this, ht]
  exact trimR_idem _
theorem index_mem {l : List UInt8} {c : UInt8} : decide (0 ≤ Lib.indexByte l c) = decide (c ∈ l) := by
  have h := index_neg l c
  by_cases hm : c ∈ l
  · rw [decide_eq_true hm, decide_eq_true]
    rcases Int.lt_or_le (Lib.indexByte l c) 0 with h1 | h1
    · exact absurd hm (h.1 h1)
    · exact h1
  · rw [decide_eq_false hm, decide_eq_false]
    have := h.2 hm
    omega
theorem asW_good {x : List UInt8} (hf : faultN x = 0) (h10 : 10 ∉ x) : faultN (asW x) = 0 ∧ 10 ∉ asW x ∧ cut13 (asW x) = asW x := by
  obtain ⟨hb, ht, m, hx⟩ := asW_parts x
  have hbad : badN x = false := by
    cases h : badN x with
    | false => rfl
    | true => unfold faultN at hf; rw [if_pos h] at hf; cases hf
  have htab : tabN x = false := by
    cases h : tabN x with
    | false => rfl
    | true => unfold faultN at hf; rw [hbad, h] at hf; cases hf
  have hb1 : (walkL printB x).2 = x.length ∧ 13 ∉ x := by
    unfold badN at hbad
    rw [index_mem] at hbad
    simp at hbad
    exact hbad
  have hsub : ∀ c, c ∈ asW x → c ∈ x := fun c hc => by rw [hx]; exact List.mem_append_left _ hc
  have h13 : 13 ∉ asW x := fun h => hb1.2 (hsub _ h)
  have hw : (walkL printB (asW x)).2 = (asW x).length := walk_short m (by rw [← hx]; exact hb1.1)
  refine ⟨?_, fun h => h10 (hsub _ h), ?_⟩
  · have e1 : badN (asW x) = false := by
      unfold badN
      rw [index_mem, decide_eq_true hw, decide_eq_false h13]; rfl
    have e2 : tabN (asW x) = false := by unfold tabN; rw [ht]; exact htab
    unfold faultN
    rw [e1, e2]; rfl
  · unfold cut13 Lib.trimSuffix
    rw [suffix_no h13]; rfl
theorem rowN_asW (k : Nat) (x : List UInt8) : rowN k (asW x) = rowN k x := by
  obtain ⟨hb, ht, _⟩ := asW_parts x
  unfold rowN
  rw [hb, ht]
theorem lineW_row (k : Nat) {x : List UInt8} (hl : x.length ≤ 65536) : lineW (rowN k x) = asW x ++ [10] := by
  have h := blanks_le x
  unfold lineW asW padN rowN
  simp only
  rw [show (min (max ((blanks x : Nat) : Int) 0) 65536).toNat = blanks x by omega]
theorem writeL_rows (L : List (List UInt8)) (hl : ∀ x ∈ L, x.length ≤ 65536) : writeL (rowsN L) = (L.map asW).flatMap (· ++ [10]) := by
  have key : ∀ (L : List (List UInt8)) (i : Nat), (∀ x ∈ L, x.length ≤ 65536) → (L.mapIdx (fun k x => rowN (k + i) x)).flatMap lineW = (L.map asW).flatMap (· ++ [10]) := by
    intro L
    induction L with
    | nil => intro i _; rfl
    | cons x L ih =>
      intro i h
      rw [List.mapIdx_cons, List.flatMap_cons, lineW_row _ (h x (by simp)), List.map_cons, List.flatMap_cons]
      have := ih (i + 1) (fun y hy => h y (by simp [hy]))
      rw [← this]
      congr 3
      funext k x
      congr 1
      omega
  exact key L 0 hl
theorem rowsN_asW (L : List (List UInt8)) : rowsN (L.map asW) = rowsN L := by
  unfold rowsN
  apply List.ext_getElem?
  intro i
  rw [List.getElem?_mapIdx, List.getElem?_mapIdx, List.getElem?_map, Option.map_map]
  congr 1
  funext x
  exact rowN_asW i x
theorem lines_back {l : List UInt8} (hm : l.length ≤ 65536) (hno : ∀ j, j < (linesL l).length → faultN (lineN l j) = 0) :
    linesL (writeL (rowsN (linesL l))) = (linesL l).map asW ∧ ∀ y ∈ (linesL l).map asW, faultN y = 0 := by
  have hle := linesL_each l
  have hgood : ∀ x ∈ linesL l, faultN x = 0 := fun x hx => by
    obtain ⟨j, hj, rfl⟩ := List.getElem_of_mem hx
    have := hno j hj
    unfold lineN at this
    rwa [List.getD_eq_getElem?_getD, List.getElem?_eq_getElem hj] at this
  have h1 : ∀ y ∈ (linesL l).map asW, faultN y = 0 ∧ 10 ∉ y ∧ cut13 y = y := fun y hy => by
    obtain ⟨x, hx, rfl⟩ := List.mem_map.1 hy
    exact asW_good (hgood x hx) (lines_no l x hx)
  refine ⟨?_, fun y hy => (h1 y hy).1⟩
  rw [writeL_rows _ (fun x hx => by have := hle x hx; omega)]
  exact lines_of _ (fun y hy => (h1 y hy).2)
theorem write_len {l : List UInt8} (hm : l.length ≤ 65536) : (writeL (rowsN (linesL l))).length ≤ 100000000000 := by
  have hle := linesL_each l
  have hll := linesL_len l
  have h1 : ∀ r ∈ rowsN (linesL l), (lineW r).length ≤ 200000 := by
    intro r hr
    unfold rowsN at hr
    obtain ⟨k, hk, rfl⟩ := List.mem_mapIdx.1 hr
    have hx := hle _ (List.getElem_mem hk)
    rw [lineW_row _ (by omega)]
    obtain ⟨_, _, m, hxe⟩ := asW_parts (linesL l)[k]
    have := congrArg List.length hxe
    rw [List.length_append] at this
    rw [List.length_append]
    simp only [List.length_cons, List.length_nil]
    omega
  have h2 : ∀ rs : List Rw, (∀ r ∈ rs, (lineW r).length ≤ 200000) → (writeL rs).length ≤ rs.length * 200000 := by
    intro rs
    induction rs with
    | nil => intro _; simp [writeL]
    | cons r rs ih =>
      intro h
      have h3 := ih (fun q hq => h q (by simp [hq]))
      have h4 := h r (by simp)
      unfold writeL at *
      rw [List.flatMap_cons, List.length_append, List.length_cons]
      omega
  have h3 := h2 _ h1
  rw [rowsN_len] at h3
  have : (linesL l).length * 200000 ≤ 65537 * 200000 := Nat.mul_le_mul_right _ (by omega)
  omega
end Go.Proofs.YtnggbhpnpomfjaaDoor.Rw
