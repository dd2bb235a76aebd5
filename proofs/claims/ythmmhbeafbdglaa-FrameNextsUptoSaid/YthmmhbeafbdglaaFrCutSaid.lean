import Derived.Test.YthmmhbeafbdglaaFrSaid
namespace Go.Proofs.Ythmmhbeafbdglaa
open Go.RowKit
theorem layB_append : ∀ (a b : List (List Nat)) (s : Nat), layB s (a ++ b) = layB s a ++ layB (s + a.length) b
  | [], b, s => by simp [layB]
  | d :: a, b, s => by simp [layB, layB_append a b, Nat.add_assoc, Nat.add_comm 1]
theorem sizeL_append (a b : List (List Nat)) : sizeL (a ++ b) = sizeL a + sizeL b := by simp [sizeL]
theorem frame_take4 (s : Nat) (d : List Nat) : (frameB s d).take 4 = yrec := by
  have e := frame_split s d []
  rw [List.append_nil] at e
  rw [e]; exact take_app rfl
/-- a frame that is cut off -/
theorem frame_cut (s : Nat) (d X : List Nat) (m : Nat) (h1 : 1 ≤ s) (hs : s ≤ 4611686018427387904) (hd : d.length ≤ 262144) (hm : m < 20 + d.length) : nextE ((frameB s d ++ X).take m) = 4 := by
  have hF := frameB_length s d
  rw [List.take_append_of_le_length (by omega)]
  have hl : ((frameB s d).take m).length = m := by simp; omega
  have h4 := frame_take4 s d
  by_cases h20 : m < 20
  · refine nextE_end ?_ (by omega)
    rw [hl, List.take_take, Nat.min_comm, ← List.take_take, h4]
  · obtain ⟨p1, p2, _⟩ := frame_parts s d [] hs hd
    rw [List.append_nil] at p1 p2
    have q1 : lenOf ((frameB s d).take m) = d.length := by
      rw [← p1]; unfold lenOf
      rw [List.drop_take, List.take_take, Nat.min_eq_left (by omega)]
    have q2 : seqOf ((frameB s d).take m) = s := by
      refine Eq.trans ?_ p2
      unfold seqOf
      rw [List.drop_take, List.take_take, Nat.min_eq_left (by omega)]
    unfold nextE
    rw [if_neg (by rw [hl, List.take_take, Nat.min_eq_left (by omega), h4, List.take_of_length_le (show yrec.length ≤ m by show 4 ≤ m; omega)]; simp), if_neg (by omega), q1, q2, if_neg (by omega), if_neg (by omega), if_pos (by omega)]
theorem valB_inj : ∀ (a b : List Nat), a.length = b.length → AllBytes a → AllBytes b → valB a = valB b → a = b
  | [], [], _, _, _, _ => rfl
  | [], _ :: _, h, _, _, _ => by simp at h
  | _ :: _, [], h, _, _, _ => by simp at h
  | c :: a, e :: b, hl, ha, hb, h => by
    have hl' : a.length = b.length := by simpa using hl
    rw [valB_cons, valB_cons, hl'] at h
    have h1 := valB_lt a (fun x hx => ha x (by simp [hx]))
    have h2 := valB_lt b (fun x hx => hb x (by simp [hx]))
    rw [hl'] at h1
    have hp : 0 < 256 ^ b.length := Nat.pow_pos (by omega)
    have e1 : (c * 256 ^ b.length + valB a) / 256 ^ b.length = c := by rw [Nat.mul_comm, Nat.mul_add_div hp, Nat.div_eq_of_lt h1]; omega
    have e2 : (e * 256 ^ b.length + valB b) / 256 ^ b.length = e := by rw [Nat.mul_comm, Nat.mul_add_div hp, Nat.div_eq_of_lt h2]; omega
    have hc : c = e := by rw [← e1, h, e2]
    subst hc
    rw [valB_inj a b hl' (fun x hx => ha x (by simp [hx])) (fun x hx => hb x (by simp [hx])) (by omega)]
theorem numB_bytes' (n v : Nat) : AllBytes (numB n v) := by
  intro c hc
  obtain ⟨j, _, rfl⟩ := List.mem_map.1 hc
  exact Nat.mod_lt _ (by omega)
theorem numB_valB (l : List Nat) (n : Nat) (hn : l.length = n) (h : AllBytes l) : numB n (valB l) = l := by
  refine valB_inj _ _ (by rw [numB_length, hn]) (numB_bytes' _ _) h ?_
  rw [valB_numB]
  exact Nat.mod_eq_of_lt (by have := valB_lt l h; rwa [hn] at this)
theorem nextE_all {r : List Nat} (h : nextE r = 0) : r.take 4 = yrec ∧ sumL [bodyOf r, dataOf r] = sumOf r := by
  have h20 := (nextE_zero h).1
  unfold nextE at h
  split at h
  · cases h
  · rename_i hm
    split at h
    · cases h
    · split at h
      · cases h
      · split at h
        · cases h
        · split at h
          · cases h
          · split at h
            · cases h
            · rename_i hs
              refine ⟨?_, by simpa using hs⟩
              have hm' : r.take 4 = yrec.take r.length := by simpa using hm
              rw [hm']
              exact List.take_of_length_le (show 4 ≤ _ by omega)
theorem split5 (r : List Nat) (n : Nat) : r.take (20 + n) = r.take 4 ++ ((r.drop 4).take 4 ++ ((r.drop 8).take 8 ++ ((r.drop 16).take 4 ++ (r.drop 20).take n))) := by
  rw [show 20 + n = 4 + (4 + (8 + (4 + n))) by omega, List.take_add, List.take_add, List.take_add, List.take_add, List.drop_drop, List.drop_drop, List.drop_drop]
/-- what is taken for a frame is the bytes of one -/
theorem frame_only {r : List Nat} (hb : AllBytes r) (h : nextE r = 0) : r.take (20 + lenOf r) = frameB (seqOf r) (dataOf r) := by
  obtain ⟨z1, z2, z3, z4, z5⟩ := nextE_zero h
  obtain ⟨y1, y2⟩ := nextE_all h
  have hdl : (dataOf r).length = lenOf r := by unfold dataOf; simp; omega
  have n1 : numB 4 (lenOf r) = (r.drop 4).take 4 := numB_valB _ 4 (by simp; omega) ((hb.drop 4).take 4)
  have n2 : numB 8 (seqOf r) = (r.drop 8).take 8 := numB_valB _ 8 (by simp; omega) ((hb.drop 8).take 8)
  have n3 : numB 4 (sumOf r) = (r.drop 16).take 4 := numB_valB _ 4 (by simp; omega) ((hb.drop 16).take 4)
  have hbody : bodyOf r = headB (seqOf r) (dataOf r) := by
    show (r.drop 4).take 12 = numB 4 (dataOf r).length ++ numB 8 (seqOf r)
    rw [hdl, n1, n2, show (12 : Nat) = 4 + 8 from rfl, List.take_add, List.drop_drop]
  have e := frame_split (seqOf r) (dataOf r) []
  rw [List.append_nil, List.append_nil] at e
  rw [e, split5, y1, hdl, n1, n2, ← hbody, y2, n3]
  rfl
/-- whole frames ahead of a place -/
def Whole (l : List (List Nat)) (a k : Nat) : Prop := k ≤ l.length ∧ sizeL (l.take k) ≤ a ∧ (k = l.length ∨ a < sizeL (l.take k) + 20 + (l.getD k []).length)
theorem take_drop_cons {l : List (List Nat)} {k : Nat} (h : k < l.length) : l.drop k = l.getD k [] :: l.drop (k + 1) := by
  rw [List.drop_eq_getElem_cons h, List.getD_eq_getElem?_getD, List.getElem?_eq_getElem h]; rfl
/-- frames that were cut off -/
theorem scan_cut (l : List (List Nat)) (a k N : Nat) (hd : ∀ d ∈ l, d.length ≤ 262144) (hs : l.length ≤ 4000000000) (hw : Whole l a k) (hN : k ≤ N) :
    scanL N 1 ((layB 1 l).take a) = numbered 1 (l.take k) ∧ scanT N 1 ((layB 1 l).take a) = sizeL (l.take k) ∧ nextE (((layB 1 l).take a).drop (sizeL (l.take k))) = 4 := by
  obtain ⟨hk, he, hw⟩ := hw
  have hkl : (l.take k).length = k := by simp; omega
  have el : layB 1 l = layB 1 (l.take k) ++ layB (1 + k) (l.drop k) := by
    conv => lhs; rw [← List.take_append_drop k l]
    rw [layB_append, hkl]
  have hl1 : (layB 1 (l.take k)).length = sizeL (l.take k) := layB_length _ _
  obtain ⟨R, hR⟩ : ∃ R, (layB (1 + k) (l.drop k)).take (a - sizeL (l.take k)) = R := ⟨_, rfl⟩
  have et : (layB 1 l).take a = layB 1 (l.take k) ++ R := by
    rw [el, List.take_append, hl1, hR, List.take_of_length_le (by omega)]
  have h4 : nextE R = 4 := by
    by_cases hkk : k < l.length
    · rw [← hR, take_drop_cons hkk]
      have hm : l.getD k [] ∈ l := by rw [List.getD_eq_getElem?_getD, List.getElem?_eq_getElem hkk]; exact List.getElem_mem hkk
      exact frame_cut (1 + k) _ _ _ (by omega) (by omega) (hd _ hm) (by omega)
    · have : l.drop k = [] := List.drop_eq_nil_of_le (by omega)
      rw [← hR, this]
      simp [layB, nextE]
  obtain ⟨M, rfl⟩ : ∃ M, N = k + M := ⟨N - k, by omega⟩
  have h := scan_app M (l.take k) 1 R (fun d hd' => hd d (List.mem_of_mem_take hd')) (by omega) (by omega)
  rw [hkl] at h
  have hn := scan_not (N := M) (s := 1 + k) (r := R) (fun h' => by omega)
  rw [hn.1, hn.2, List.append_nil, Nat.add_zero] at h
  rw [et]
  exact ⟨h.1, h.2, by rw [drop_app hl1]; exact h4⟩
/-- frames of which one byte was turned -/
theorem scan_turned (l : List (List Nat)) (L' : List Nat) (a k N : Nat) (hd : ∀ d ∈ l, d.length ≤ 262144) (hs : l.length ≤ 4000000000) (hw : Whole l a k) (ha : a < sizeL l) (hN : k ≤ N) (hb : AllBytes L')
    (hsame : ∀ j, j ≠ a → L'[j]? = (layB 1 l)[j]?) (hother : L'[a]? ≠ (layB 1 l)[a]?) :
    ∃ t, scanL N 1 L' = numbered 1 (l.take k) ++ t ∧ k < l.length ∧ (t = [] ∨ ∃ sq x u, t = (sq, x) :: u ∧ x ≠ l.getD k []) := by
  obtain ⟨hk, he, hw⟩ := hw
  have hkk : k < l.length := by
    rcases hw with hw | hw
    · subst hw; rw [List.take_length] at he; omega
    · rcases Nat.lt_or_ge k l.length with h | h
      · exact h
      · have : k = l.length := by omega
        subst this; rw [List.take_length] at he; omega
  have ha2 : a < sizeL (l.take k) + 20 + (l.getD k []).length := by rcases hw with hw | hw <;> omega
  have hkl : (l.take k).length = k := by simp; omega
  have hl1 : (layB 1 (l.take k)).length = sizeL (l.take k) := layB_length _ _
  have el : layB 1 l = layB 1 (l.take k) ++ (frameB (1 + k) (l.getD k []) ++ layB (1 + k + 1) (l.drop (k + 1))) := by
    conv => lhs; rw [← List.take_append_drop k l]
    rw [layB_append, hkl, take_drop_cons hkk]; rfl
  have hfl := frameB_length (1 + k) (l.getD k [])
  have e1 : L'.take (sizeL (l.take k)) = layB 1 (l.take k) := by
    apply List.ext_getElem?
    intro j
    rw [List.getElem?_take]
    by_cases hj : j < sizeL (l.take k)
    · rw [if_pos hj, hsame j (by omega), el, List.getElem?_append_left (by omega)]
    · rw [if_neg hj, List.getElem?_eq_none (by omega)]
  have e2 : L' = layB 1 (l.take k) ++ L'.drop (sizeL (l.take k)) := by rw [← e1]; exact (List.take_append_drop _ _).symm
  have hbr := hb.drop (sizeL (l.take k))
  have hpos : (L'.drop (sizeL (l.take k)))[a - sizeL (l.take k)]? = L'[a]? := by rw [List.getElem?_drop]; congr 1; omega
  obtain ⟨M, rfl⟩ : ∃ M, N = k + M := ⟨N - k, by omega⟩
  have h := scan_app M (l.take k) 1 (L'.drop (sizeL (l.take k))) (fun d hd' => hd d (List.mem_of_mem_take hd')) (by omega) (by omega)
  rw [hkl, ← e2] at h
  refine ⟨_, h.1, hkk, ?_⟩
  generalize L'.drop (sizeL (l.take k)) = r at hbr hpos
  cases M with
  | zero => exact Or.inl rfl
  | succ m =>
    by_cases hc : nextE r = 0 ∧ seqOf r = 1 + k
    · right
      refine ⟨1 + k, dataOf r, scanL m (1 + k + 1) (r.drop (20 + lenOf r)), by simp only [scanL, if_pos hc], fun hx => hother ?_⟩
      have z := nextE_zero hc.1
      have hdl : (dataOf r).length = lenOf r := by unfold dataOf; simp; omega
      have hf := frame_only hbr hc.1
      rw [hc.2, hx, ← hdl, hx] at hf
      rw [← hpos, el, List.getElem?_append_right (by omega), hl1, List.getElem?_append_left (by omega), ← hf, List.getElem?_take, if_pos (by omega)]
    · exact Or.inl (scan_not hc).1
end Go.Proofs.Ythmmhbeafbdglaa
