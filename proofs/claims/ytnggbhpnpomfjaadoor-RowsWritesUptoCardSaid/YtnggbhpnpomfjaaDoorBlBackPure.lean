/- Plain law: what Take makes of a laid text's lines, set as rows of a column, whatever row stands behind, is the text. Conditions: the text may be laid, and is no longer than 65536 bytes. -/
import Derived.Test.YtnggbhpnpomfjaaDoorBlLayR
import Derived.Test.YtnggbhpnpomfjaaDoorBlTk
set_option linter.unusedVariables false
namespace Go.Proofs.YtnggbhpnpomfjaaDoor.Bl
open Go.RowKit
def atRow (col : Int) (i : Nat) (x : List UInt8) : Rw := ⟨col + (blanks x : Nat), ⟨(x.drop (blanks x)).toArray⟩, (i : Int) + 1⟩
/-- lines as rows of a column -/
def atRows (col : Int) (K : List (List UInt8)) : List Rw := K.mapIdx (atRow col)
theorem atRows_length (col : Int) (K : List (List UInt8)) : (atRows col K).length = K.length := by simp [atRows]
theorem atRows_get (col : Int) (K : List (List UInt8)) (B : List Rw) (k : Nat) (h : k < K.length) : (atRows col K ++ B).getD k rw0 = atRow col k (K.getD k []) := by
  rw [List.getD_eq_getElem?_getD, List.getElem?_append_left (by rw [atRows_length]; exact h)]
  unfold atRows
  rw [List.getElem?_mapIdx, List.getD_eq_getElem?_getD, List.getElem?_eq_getElem h]
  rfl
theorem blanks_all (x : List UInt8) : x = List.replicate (blanks x) 32 ++ x.drop (blanks x) := by
  have h1 : x.takeWhile (fun c => c == 32) = List.replicate (blanks x) 32 := by
    rw [List.eq_replicate_iff]
    refine ⟨rfl, fun c hc => ?_⟩
    have := List.all_takeWhile (p := fun c : UInt8 => c == 32) (l := x)
    rw [List.all_eq_true] at this
    simpa using this c hc
  have h2 := List.takeWhile_append_dropWhile (p := fun c : UInt8 => c == 32) (l := x)
  have h3 : x.dropWhile (fun c => c == 32) = x.drop (blanks x) := trim_drop x
  rw [h1, h3] at h2
  exact h2.symm
theorem blanks_flat {x : List UInt8} (h : flatL x = true) : blanks x = 0 := by
  cases x with
  | nil => rfl
  | cons c t =>
    have hc : c ≠ 32 := by intro e; subst e; simp [flatL] at h
    unfold blanks
    rw [List.takeWhile_cons_of_neg (by simpa using hc)]
    rfl
theorem good_drop {x : List UInt8} (hb : badLine x = false) (h : x.drop (blanks x) = []) : x = [] := by
  rcases Decidable.em (x = []) with e | e
  · exact e
  · exfalso
    have h1 := blanks_all x
    rw [h, List.append_nil] at h1
    rw [bad_bytes] at hb
    have hn : 0 < blanks x := by
      rcases Nat.eq_zero_or_pos (blanks x) with h0 | h0
      · rw [h0] at h1; exact absurd h1 e
      · exact h0
    have hl : x.length = blanks x := by
      have := congrArg List.length h1
      rwa [List.length_replicate] at this
    have : x[x.length - 1]? = some 32 := by
      rw [hl, h1, List.getElem?_replicate]
      rw [if_pos (by have e2 : blanks (List.replicate (blanks x) 32) = blanks x := by rw [← h1]
                     omega)]
    rw [this] at hb
    simp at hb
theorem firstT_append (A B : List (List UInt8)) : firstT (A ++ B) = if firstT A = [] then firstT B else firstT A := by
  unfold firstT
  rw [List.find?_append]
  cases h : A.find? (fun x => !x.isEmpty) with
  | none => simp
  | some y =>
    have hy := List.find?_some h
    have hne : y ≠ [] := by intro e; subst e; simp at hy
    simp [hne]
theorem firstT_empty {A : List (List UInt8)} (h : ∀ x ∈ A, x = []) : firstT A = [] := by
  unfold firstT
  rw [List.find?_eq_none.2 (fun x hx => by rw [h x hx]; simp)]
  rfl
theorem endT_full (rs : List Rw) : ∀ n, 0 < endT rs n → (rs.getD (endT rs n - 1) rw0).em = false
  | 0, h => absurd h (Nat.lt_irrefl 0)
  | n + 1, h => by
    simp only [endT] at h ⊢
    cases he : (rs.getD n rw0).em with
    | true => rw [if_pos rfl]; rw [he, if_pos rfl] at h; exact endT_full rs n h
    | false => rw [if_neg (by simp)]; exact he
theorem joinT_cons (x : List UInt8) (r : List (List UInt8)) : joinT (x :: r) = x ++ Lib.joinTail [10] r := Lib.join_cons x r [10]
theorem tail_cons (x : List UInt8) (r : List (List UInt8)) : Lib.joinTail [10] (x :: r) = 10 :: x ++ Lib.joinTail [10] r := by simp [Lib.joinTail]
theorem join_more (x : List UInt8) (r B : List (List UInt8)) : joinT ((x :: r) ++ B) = joinT (x :: r) ++ Lib.joinTail [10] B := by
  rw [List.cons_append, joinT_cons, joinT_cons]
  simp [Lib.joinTail]
theorem join_empty : ∀ m, Lib.joinTail [10] (List.replicate m ([] : List UInt8)) = List.replicate m 10
  | 0 => rfl
  | m + 1 => by rw [List.replicate_succ, List.replicate_succ, tail_cons, join_empty m]; rfl
theorem join_split : ∀ l : List UInt8, joinT (splitT l) = l
  | [] => by rw [show splitT [] = [[]] from rfl, joinT_cons]; rfl
  | c :: t => by
    have ih := join_split t
    have hne := splitT_ne t
    rw [show splitT (c :: t) = if c = 10 then [] :: splitT t else (c :: (splitT t).headD []) :: (splitT t).tail from rfl]
    cases hs : splitT t with
    | nil => exact absurd hs hne
    | cons y r =>
      rw [hs] at ih
      by_cases hc : c = 10
      · subst hc
        rw [if_pos rfl, joinT_cons, tail_cons]
        rw [joinT_cons] at ih
        rw [List.cons_append, ih]
        rfl
      · rw [if_neg hc]
        rw [joinT_cons] at ih
        show joinT ((c :: y) :: r) = _
        rw [joinT_cons, List.cons_append, ih]
theorem layL_cases (l : List UInt8) : (layC l = 1 ∧ layL l = splitT l ∧ (layL l).getLastD [] ≠ []) ∨ (splitT l = layL l ++ [[]] ∧ ((layC l = 0 ∧ (layL l).getLastD [] ≠ []) ∨ layC l = 2)) := by
  unfold layC layL
  have hne := splitT_ne l
  by_cases h : (splitT l).getLastD [] ≠ []
  · rw [if_pos h, if_pos h]; exact Or.inl ⟨rfl, rfl, h⟩
  · rw [if_neg h, if_neg h]
    refine Or.inr ⟨?_, ?_⟩
    · have h' : (splitT l).getLastD [] = [] := Classical.not_not.1 h
      rw [List.getLastD_eq_getLast?, List.getLast?_eq_some_getLast hne] at h'
      have := List.dropLast_concat_getLast hne
      rw [show (splitT l).getLast hne = [] from h'] at this
      exact this.symm
    · by_cases h2 : (splitT l).dropLast.getLastD [] ≠ []
      · rw [if_pos h2]; exact Or.inl ⟨rfl, h2⟩
      · rw [if_neg h2]; exact Or.inr rfl
theorem lay_back (l : List UInt8) (cc : Int) (hcc : 0 ≤ cc) (B : List Rw) (hok : layOk l = true) (hlen : l.length ≤ 65536) (hB : ∀ r, B.head? = some r → r.lies cc = true) :
    takeV (atRows (cc + 1) (layL l) ++ B) cc false (layC l) = .tuple #[.string ⟨l.toArray⟩, .int .i64 ((layL l).length : Nat), .agg #[.int .i64 0, .int .i64 0]] := by
  unfold layOk at hok
  simp only [Bool.and_eq_true] at hok
  obtain ⟨⟨⟨hfl, _⟩, _⟩, hgood⟩ := hok
  rw [head_first] at hfl
  rw [List.all_eq_true] at hgood
  have hsub : ∀ x ∈ layL l, x ∈ splitT l := by
    intro x hx
    unfold layL at hx
    split at hx
    · exact hx
    · exact List.dropLast_subset _ hx
  have hK : firstT (layL l) = firstT (splitT l) := by
    rcases layL_cases l with ⟨_, h, _⟩ | ⟨h, _⟩
    · rw [h]
    · rw [h, firstT_append]
      by_cases h2 : firstT (layL l) = []
      · rw [if_pos h2, h2]; rfl
      · rw [if_neg h2]
  have hcs := layL_cases l
  obtain ⟨C, hC⟩ : ∃ C, layC l = C := ⟨_, rfl⟩
  obtain ⟨K, hKe⟩ : ∃ K, layL l = K := ⟨_, rfl⟩
  rw [hC, hKe] at hcs
  rw [hKe] at hsub hK
  rw [hC, hKe]
  have hfK : flatL (firstT K) = true := by rw [hK]; exact hfl
  have hfne : firstT K ≠ [] := fun e => by rw [e] at hfK; cases hfK
  have hgd : ∀ k, k < K.length → badLine (K.getD k []) = false ∧ (K.getD k []).length ≤ 65536 := fun k hk => by
    have hm : K.getD k [] ∈ splitT l := hsub _ (by rw [List.getD_eq_getElem?_getD, List.getElem?_eq_getElem hk]; exact List.getElem_mem hk)
    have h1 := hgood _ hm
    have h2 := splitT_each l _ hm
    exact ⟨by simpa using h1, by omega⟩
  obtain ⟨rs, hrs⟩ : ∃ rs, atRows (cc + 1) K ++ B = rs := ⟨_, rfl⟩
  have hget : ∀ k, k < K.length → rs.getD k rw0 = atRow (cc + 1) k (K.getD k []) := fun k hk => by rw [← hrs]; exact atRows_get _ _ _ _ hk
  have hem : ∀ k, k < K.length → ((rs.getD k rw0).em = true ↔ K.getD k [] = []) := fun k hk => by
    rw [hget k hk]
    constructor
    · intro h
      have := Rw.em_true h
      exact good_drop (hgd k hk).1 this
    · intro h
      rw [h]; rfl
  have hat : ∀ k, k < K.length → (rs.getD k rw0).at_ = cc + 1 + (blanks (K.getD k []) : Nat) := fun k hk => by
    rw [hget k hk]
    show max _ _ = _
    show max (cc + 1 + (blanks (K.getD k []) : Nat)) 0 = _
    omega
  have htk : ∀ k, k < K.length → K.take (k + 1) = K.take k ++ [K.getD k []] := fun k hk => by
    rw [List.take_succ_eq_append_getElem hk, List.getD_eq_getElem?_getD, List.getElem?_eq_getElem hk]; rfl
  have hbase : ∀ k, k ≤ K.length → baseT rs k = if firstT (K.take k) = [] then -1 else cc + 1 := by
    intro k
    induction k with
    | zero => intro _; simp [baseT, firstT]
    | succ k ih =>
      intro hk
      have ih := ih (by omega)
      have hkl : k < K.length := by omega
      have hfa := firstT_append (K.take (k + 1)) (K.drop (k + 1))
      rw [List.take_append_drop] at hfa
      simp only [baseT]
      rw [htk k hkl, firstT_snoc] at *
      by_cases hx : K.getD k [] = []
      · rw [if_pos ((hem k hkl).2 hx), ih, hx]
        by_cases h2 : firstT (K.take k) = [] <;> simp [h2]
      · rw [if_neg (fun h => hx ((hem k hkl).1 h)), ih]
        by_cases h2 : firstT (K.take k) = []
        · rw [if_pos h2, if_pos (by omega), if_pos h2, if_neg hx, hat k hkl]
          rw [if_pos h2, if_neg hx] at hfa
          rw [hfa] at hfK
          rw [blanks_flat hfK]; simp
        · rw [if_neg h2, if_neg (by omega), if_neg h2, if_neg h2]
  have hbase1 : ∀ k, k < K.length → K.getD k [] ≠ [] → baseT rs (k + 1) = cc + 1 := fun k hk hx => by
    rw [hbase (k + 1) hk, htk k hk, firstT_snoc]
    by_cases h2 : firstT (K.take k) = []
    · rw [if_pos h2, if_neg hx]
    · rw [if_neg h2, if_neg h2]
  have hbl : ∀ k, k < K.length → blanks (K.getD k []) ≤ 65536 := fun k hk => Nat.le_trans (blanks_le _) (hgd k hk).2
  have hnb : ∀ k, k < K.length → badT rs k = false := fun k hk => by
    unfold badT
    by_cases hx : K.getD k [] = []
    · rw [(hem k hk).2 hx]; rfl
    · have h1 : (rs.getD k rw0).em = false := by
        cases h : (rs.getD k rw0).em with
        | true => exact absurd ((hem k hk).1 h) hx
        | false => rfl
      have h2 := hbl k hk
      rw [h1, hbase1 k hk hx, hat k hk, decide_eq_false (by omega), decide_eq_false (by omega)]
      rfl
  have hline : ∀ k, k < K.length → lineT rs k = K.getD k [] := fun k hk => by
    unfold lineT
    by_cases hx : K.getD k [] = []
    · rw [if_pos ((hem k hk).2 hx), hx]
    · rw [if_neg (fun h => hx ((hem k hk).1 h)), hbase1 k hk hx, hat k hk, hget k hk]
      have e : (cc + 1 + (blanks (K.getD k []) : Nat) - (cc + 1)).toNat = blanks (K.getD k []) := by omega
      rw [e]
      exact (blanks_all _).symm
  have hlies : ∀ k, k < K.length → (rs.getD k rw0).lies cc = false := fun k hk => by
    unfold Rw.lies
    rw [hat k hk, decide_eq_false (by omega), Bool.and_false]
  have hcnt : cntT rs cc = K.length := by
    have hrl : rs.length = K.length + B.length := by rw [← hrs, List.length_append, atRows_length]
    cases hBc : B with
    | nil =>
      rw [hBc] at hrl
      have := cnt_end (rs := rs) (col := cc) (fun j hj => hlies j (by simp at hrl; omega))
      rw [this]; simpa using hrl
    | cons r B' =>
      rw [hBc] at hrl
      simp at hrl
      refine cnt_stop (by omega) ?_ hlies
      have : rs.getD K.length rw0 = r := by
        rw [← hrs, hBc, List.getD_eq_getElem?_getD, List.getElem?_append_right (by rw [atRows_length]; exact Nat.le_refl _), atRows_length, Nat.sub_self]
        rfl
      rw [this]
      exact hB r (by rw [hBc]; rfl)
  have hlines : ∀ e, e ≤ K.length → linesT rs e = K.take e := by
    intro e
    induction e with
    | zero => intro _; simp [linesT]
    | succ e ih =>
      intro he
      have ih := ih (by omega)
      unfold linesT at *
      rw [List.range_succ, List.map_append, ih, htk e (by omega), List.map_cons, List.map_nil, hline e (by omega)]
  unfold takeV
  rw [hrs, hcnt, badAt_none hnb]
  simp only
  have htext : textT rs K.length false C = l := by
    unfold textT
    rw [if_neg (by simp)]
    obtain ⟨e, he⟩ : ∃ e, endT rs K.length = e := ⟨_, rfl⟩
    have he1 := endT_le rs K.length
    have he2 := endT_em rs K.length
    have he3 := endT_full rs K.length
    rw [he] at he1 he2 he3 ⊢
    rw [hlines e he1]
    have hdrop : K.drop e = List.replicate (K.length - e) [] := by
      rw [List.eq_replicate_iff]
      refine ⟨by simp, fun x hx => ?_⟩
      obtain ⟨j, hj, rfl⟩ := List.getElem_of_mem hx
      rw [List.length_drop] at hj
      have := (hem (e + j) (by omega)).1 (he2 (e + j) (by omega) (by omega))
      rw [List.getElem_drop]
      rw [List.getD_eq_getElem?_getD, List.getElem?_eq_getElem (by omega)] at this
      exact this
    have hsplit : K = K.take e ++ List.replicate (K.length - e) [] := by rw [← hdrop, List.take_append_drop]
    have hpos : 0 < e := by
      rcases Nat.eq_zero_or_pos e with h0 | h0
      · exfalso
        rw [h0] at hdrop
        exact hfne (firstT_empty (fun x hx => by rw [List.drop_zero] at hdrop; rw [hdrop] at hx; exact (List.mem_replicate.1 hx).2))
      · exact h0
    have htne : ∃ y r, K.take e = y :: r := by
      cases h : K.take e with
      | nil =>
        have := congrArg List.length h
        rw [List.length_take] at this
        simp only [List.length_nil] at this
        omega
      | cons y r => exact ⟨y, r, rfl⟩
    obtain ⟨y, r, hyr⟩ := htne
    have hjK : joinT K = joinT (K.take e) ++ List.replicate (K.length - e) 10 := by
      conv => lhs; rw [hsplit, hyr, join_more, join_empty]
      rw [hyr]
    have hfull : K.getLastD [] ≠ [] → e = K.length := fun h => by
      rcases Nat.lt_or_ge e K.length with h1 | h1
      · exfalso
        apply h
        have h2 := (hem (K.length - 1) (by omega)).1 (he2 (K.length - 1) (by omega) (by omega))
        rw [List.getLastD_eq_getLast?, List.getLast?_eq_getElem?, ← List.getD_eq_getElem?_getD]
        exact h2
      · omega
    have hjs := join_split l
    rcases hcs with ⟨hC1, hKs, hl⟩ | ⟨hKs, ⟨hC0, hl⟩ | hC2⟩
    · have := hfull hl
      rw [hC1, if_neg (by simp), if_neg (by simp), List.append_nil, List.append_nil, this, List.take_length, hKs, hjs]
    · have := hfull hl
      rw [hC0, if_pos ⟨by simp, hpos⟩, if_neg (by simp), List.append_nil]
      rw [hKs] at hjs
      rw [this, List.take_length] at hyr ⊢
      rw [hyr, join_more] at hjs
      rw [hyr]
      exact hjs
    · rw [hC2, if_pos ⟨by simp, hpos⟩, if_pos rfl]
      rw [hKs] at hjs
      have h3 : joinT (K ++ [[]]) = joinT K ++ [10] := by
        cases hKc : K with
        | nil => rw [hKc] at hyr; simp at hyr
        | cons a b => rw [join_more]; rfl
      rw [h3, hjK, List.append_assoc, ← List.replicate_succ'] at hjs
      rw [List.append_assoc, ← hjs]
      rfl
  rw [htext]
end Go.Proofs.YtnggbhpnpomfjaaDoor.Bl
