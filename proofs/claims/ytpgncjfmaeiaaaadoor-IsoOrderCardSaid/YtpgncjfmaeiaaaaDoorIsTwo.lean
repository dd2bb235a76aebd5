/- A region that draws its order and has a call in its midst, and a second one at its end: what only reads ahead of each call comes as it stands written. Conditions: the region's own shape, reckoned. -/
import Derived.Test.YtpgncjfmaeiaaaaDoorIsDfs
import Derived.StillTail
set_option linter.unusedVariables false
namespace Go.Proofs.YtpgncjfmaeiaaaaDoor.Is
section
variable {P : Program} {ops : Array Oper} {md : Region.Mode} {w : World}
/-- whatever stands behind place n waits for something that is not ahead of it -/
def waitB (md : Region.Mode) (ops : Array Oper) (n : Nat) : Bool := (List.range ops.size).all fun t => decide (t ≤ n) || (List.range t).any fun j => decide (n ≤ j) && Region.waitsFor md ops t j
theorem late_t {n t : Nat} {listed : Array Bool} (hc : waitB md ops n = true) (inv : HeadInv md ops n listed) (ht : n < t) : t ∉ Region.ready md ops listed := by
  intro hr
  obtain ⟨_, ot, hot, hall⟩ := mem_ready.1 hr
  have htl : t < ops.size := (Array.getElem?_eq_some_iff.1 hot).1
  have h1 := List.all_eq_true.1 hc t (List.mem_range.2 htl)
  simp only [Bool.or_eq_true, decide_eq_true_eq] at h1
  rcases h1 with h1 | h1
  · omega
  · obtain ⟨j, hj, h2⟩ := List.any_eq_true.1 h1
    simp only [Bool.and_eq_true, decide_eq_true_eq] at h2
    have hjt := List.mem_range.1 hj
    obtain ⟨o', ho', e, he, hb, hon⟩ := Region.waitsFor_spec h2.2
    obtain rfl : o' = ot := Option.some.inj (ho'.symm.trans hot)
    have h3 := hall e he hb
    rw [hon, getD_both (inv.tail j h2.1 (by omega))] at h3
    cases h3
theorem late_n {n : Nat} {listed : Array Bool} (hs : Region.sinkB md ops n = true) (hn : n < ops.size) (inv : HeadInv md ops n listed) :
    ∀ (d i : Nat), n - i = d → i < n → listed.getD i true = false → n ∉ Region.ready md ops listed := by
  intro d
  induction d using Nat.strongRecOn with
  | _ d ih =>
    intro i hd hi hun hr
    obtain ⟨_, ot, hot, hall⟩ := mem_ready.1 hr
    obtain ⟨j, hj, hj2⟩ := List.any_eq_true.1 (List.all_eq_true.1 hs i (List.mem_range.2 hi))
    simp only [Bool.and_eq_true, decide_eq_true_eq] at hj2
    obtain ⟨oj, hoj, e, he, hb, hon⟩ := Region.waitsFor_spec hj2.2
    have hjn : j < n + 1 := List.mem_range.1 hj
    by_cases hj3 : j = n
    · subst hj3
      obtain rfl : oj = ot := Option.some.inj (hoj.symm.trans hot)
      have h2 := hall e he hb
      rw [hon, getD_both hun] at h2
      cases h2
    · cases hl : listed.getD j false with
      | true =>
        have h2 := inv.closed j oj hoj hl e he hb
        rw [hon, getD_both hun] at h2
        cases h2
      | false => exact ih (n - j) (by omega) j rfl (by omega) (getD_in (by rw [inv.size]; omega) hl) hr
theorem early {n i j : Nat} {listed : Array Bool} (hs : Region.sinkB md ops n = true) (hc : waitB md ops n = true) (hn : n < ops.size) (inv : HeadInv md ops n listed) (hi : i < n) (hun : listed.getD i true = false) (hj : j ∈ Region.ready md ops listed) : j < n := by
  rcases Nat.lt_trichotomy j n with h | h | h
  · exact h
  · subst h
    exact absurd hj (late_n hs hn inv _ i rfl hi hun)
  · exact absurd hj (late_t hc inv h)
theorem head_first {n i : Nat} {oi : Oper} {v : Value} {L : Array Bool → Act → Prop} (hi : ops[i]? = some oi) (hsel : ∀ (j : Nat) (o : Oper) cs b, ops[j]? = some o → o.op ≠ .select cs b)
    (hs : Region.sinkB md ops n = true) (hc : waitB md ops n = true) (hn : n < ops.size) (hin : i < n)
    (hdone : ∀ listed a, L listed a → ∀ j ∈ Region.ready md ops listed, n ≤ j) :
    ∀ (f : Nat) (listed : Array Bool) (a : Act), HeadInv md ops n listed →
      (∀ j oj, ops[j]? = some oj → j ≠ i → listed.getD j true = false → (∀ e ∈ oj.after, Region.binds md e = true → e.on ≠ i) → oi.apart ops oj = true) →
      i ∈ Region.ready md ops listed → YieldsAt P ops w oi v a →
      wpAnyL P md ops w n L f (listed.setIfInBounds i true) (a.put oi.dst v) → wpAnyL P md ops w n L (f + 1) listed a := by
  intro f
  induction f with
  | zero =>
    intro listed a inv _ hr hy H
    refine ⟨fun h => (by rw [h] at hr; cases hr), fun j hj => ⟨early hs hc hn inv hin (mem_ready.1 hr).1 hj, ?_⟩⟩
    by_cases hji : j = i
    · rw [hji]; exact hy.stOp hi H
    · have h1 := hdone _ _ H j (ready_mono hj hji)
      have h2 := early hs hc hn inv hin (mem_ready.1 hr).1 hj
      omega
  | succ f ih =>
    intro listed a inv hfree hr hy H
    refine ⟨fun h => (by rw [h] at hr; cases hr), fun j hj => ⟨early hs hc hn inv hin (mem_ready.1 hr).1 hj, ?_⟩⟩
    have hjn := early hs hc hn inv hin (mem_ready.1 hr).1 hj
    by_cases hji : j = i
    · rw [hji]; exact hy.stOp hi H
    · obtain ⟨hjun, oj, hoj, hall⟩ := mem_ready.1 hj
      have hnot : ∀ e ∈ oj.after, Region.binds md e = true → e.on ≠ i := fun e he hb heq => by
        have h1 := hall e he hb
        rw [heq, getD_both (mem_ready.1 hr).1] at h1
        cases h1
      have h2 := stOp_put hoj (hfree j oj hoj hji hjun hnot) (fun cs b => hsel i oi cs b hi) (fun cs b => hsel j oj cs b hoj) hy (H.2 j (ready_mono hj hji)).2
      refine stOp_mono (fun a' h3 => ih (listed.setIfInBounds j true) a' (inv.set hj hjn) (fun k ok hk hki hun hno => hfree k ok hk hki ?_ hno) (ready_mono hr (Ne.symm hji)) h3.1 ?_) h2
      · by_cases hjk : j = k
        · rw [← hjk]; exact hjun
        · rwa [getD_set_ne true hjk] at hun
      · rw [Array.setIfInBounds_comm _ _ hji]
        exact h3.2
/-- the first ones come in their order; then 'fin' -/
def headB (md : Region.Mode) (ops : Array Oper) (fin : Array Bool → Bool) : Nat → Nat → Array Bool → Bool
  | 0, k, listed => fin listed
  | f + 1, k, listed => (Region.ready md ops listed).contains k && Region.free md ops listed k && headB md ops fin f (k + 1) (listed.setIfInBounds k true)
theorem head_lex {n : Nat} {fin : Array Bool → Bool} {Lq : Act → Prop} (hfin : ∀ listed, fin listed = true → ∀ j ∈ Region.ready md ops listed, n ≤ j) (hsel : Region.noSelect ops = true) (hs : Region.sinkB md ops n = true) (hc : waitB md ops n = true) (hn : n < ops.size) :
    ∀ (l : List Oper) (k : Nat) (listed : Array Bool) (a : Act), (∀ j, j < l.length → l[j]? = ops[k + j]?) → k + l.length = n → HeadInv md ops n listed →
    headB md ops fin l.length k listed = true → wpStill P ops w Lq l a →
    wpAnyL P md ops w n (fun listed' a' => HeadInv md ops n listed' ∧ fin listed' = true ∧ Lq a') l.length listed a
  | [], k, listed, a, _, hk, inv, hB, h => ⟨inv, hB, h⟩
  | o :: l, k, listed, a, hl, hk, inv, hB, h => by
    have h0 : ops[k]? = some o := by simpa using (hl 0 (by simp)).symm
    simp only [List.length_cons, headB, Bool.and_eq_true] at hB
    obtain ⟨⟨hr, hf⟩, hB'⟩ := hB
    have hkn : k < n := by simp only [List.length_cons] at hk; omega
    have hr' : k ∈ Region.ready md ops listed := by simpa using hr
    have hst : stOp P ops w k (wpStill P ops w Lq l) a := by unfold stOp; simp only [h0]; exact h
    obtain ⟨v, hy, hK⟩ := yieldsAt_of_stOp h0 hst
    exact head_first h0 (Region.noSelect_spec hsel) hs hc hn hkn (fun listed' a' hL => hfin _ hL.2.1) l.length listed a inv (Region.free_spec h0 hf) hr' hy
      (head_lex hfin hsel hs hc hn l (k + 1) _ _ (fun j hj => by have := hl (j + 1) (by simp; omega); simpa [Nat.add_assoc, Nat.add_comm 1 j] using this) (by simp only [List.length_cons] at hk; omega) (inv.set hr' hkn) hB' hK)
/-- behind the second part: one by one -/
def fin2 (md : Region.Mode) (ops : Array Oper) (m : Nat) (listed : Array Bool) : Bool := Region.seqB md ops (ops.size - m) m listed
/-- behind the first part: the call alone; then the second part -/
def fin1 (md : Region.Mode) (ops : Array Oper) (n m : Nat) (listed : Array Bool) : Bool := decide (Region.ready md ops listed = [n]) && headB md ops (fin2 md ops m) (m - (n + 1)) (n + 1) (listed.setIfInBounds n true)
def twoB (md : Region.Mode) (ops : Array Oper) (n m : Nat) : Bool :=
  Region.noSelect ops && decide (n < m) && decide (m < ops.size) && Region.sinkB md ops n && waitB md ops n && Region.sinkB md ops m && waitB md ops m && headB md ops (fin1 md ops n m) n 0 (Array.replicate ops.size false)
/-- an operation that is wanted, and its value -/
theorem wpStill_val {Q : Act → Prop} {a : Act} {o : Oper} {rest : List Oper} {v : Value} (hw : Region.wanted o (yielded ops a.tmps) = true) (e : (execOp a.eval o).run P w = .ok (.value v) w) (h : wpStill P ops w Q rest (a.put o.dst v)) : wpStill P ops w Q (o :: rest) a := by
  unfold wpStill
  rw [if_pos hw]
  unfold Oper.still
  rw [e, Oper.stillUpon_value]
  exact h
/-- one that is not wanted -/
theorem wpStill_off {Q : Act → Prop} {a : Act} {o : Oper} {rest : List Oper} (hw : Region.wanted o (yielded ops a.tmps) = false) (h : wpStill P ops w Q rest (a.put o.dst undef)) : wpStill P ops w Q (o :: rest) a := by
  unfold wpStill
  rw [if_neg (by rw [hw]; exact Bool.false_ne_true)]
  exact h
theorem wp_region_two {id : Nat} {Q : Exit → Act → World → Prop} {a : Act} {w : World} {l : List Oper} (n m : Nat) {o : Oper} (ho : l[n]? = some o) (hm : P.follows .mixedOrders = true) (hB : twoB .any l.toArray n m = true)
    (h : wpStill P l.toArray { w with drawn := w.drawn + 1 } (fun a1 => ∀ K : Act → World → Prop, (∀ a2 w2, wpStill P l.toArray w2 (fun a3 => wpList P l.toArray Q (l.drop m) a3 w2) ((l.drop (n + 1)).take (m - (n + 1))) a2 → K a2 w2) →
      if Region.wanted o (yielded l.toArray a1.tmps) = true then o.wp P a1 { w with drawn := w.drawn + 1 } K Q else K (a1.put o.dst undef) { w with drawn := w.drawn + 1 }) (l.take n) a) : (Code.region id l.toArray true).wp P Q a w := by
  simp only [twoB, Bool.and_eq_true, decide_eq_true_eq] at hB
  obtain ⟨⟨⟨⟨⟨⟨⟨hsel, hnm⟩, hms⟩, hs⟩, hc⟩, hs2⟩, hc2⟩, hlex⟩ := hB
  have hml : m < l.length := by simpa using hms
  have hns : n < l.toArray.size := by omega
  have htl : (l.take n).length = n := by simp; omega
  have htl2 : ((l.drop (n + 1)).take (m - (n + 1))).length = m - (n + 1) := by simp; omega
  have hdl : (l.drop m).length = l.toArray.size - m := by simp
  have inv0 : HeadInv .any l.toArray n (Array.replicate l.toArray.size false) :=
    ⟨by simp, fun j oj _ hl => (by rw [getD_replicate_false] at hl; cases hl), fun t _ ht => getD_in (by simpa using ht) (getD_replicate_false _ _)⟩
  have H := head_lex (md := .any) (fin := fin1 .any l.toArray n m) (fun listed hf j hj => by
    simp only [fin1, Bool.and_eq_true, decide_eq_true_eq] at hf
    rw [hf.1] at hj
    have : j = n := by simpa using hj
    omega) hsel hs hc hns (l.take n) 0 _ a (fun j hj => by
    have hj' : j < n := by rw [htl] at hj; exact hj
    simp [hj']) (by simpa using htl) inv0 (by rw [htl]; exact hlex) h
  refine wp_region_any hm ?_
  have key := wpAny_of_head (Q' := Q) (g := l.toArray.size - n) (fun listed a1 hL => by
    obtain ⟨inv, hf, hq⟩ := hL
    simp only [fin1, Bool.and_eq_true, decide_eq_true_eq] at hf
    obtain ⟨hrd, hh⟩ := hf
    rw [show l.toArray.size - n = (l.toArray.size - n - 1) + 1 by omega]
    refine ⟨fun h0 => (by rw [h0] at hrd; cases hrd), fun i hi => ?_⟩
    rw [hrd] at hi
    obtain rfl : i = n := by simpa using hi
    have h0 : l.toArray[i]? = some o := by simpa using ho
    unfold wpOp
    simp only [h0]
    have hk := hq (wpAny P .any l.toArray Q (l.toArray.size - i - 1) (listed.setIfInBounds i true)) (fun a2 w2 h2 => by
      have hir : i ∈ Region.ready .any l.toArray listed := by rw [hrd]; simp
      have inv1 : HeadInv .any l.toArray m listed := ⟨inv.size, inv.closed, fun t ht ht' => inv.tail t (by omega) ht'⟩
      have inv2 := inv1.set hir hnm
      have H2 := head_lex (md := .any) (fin := fin2 .any l.toArray m) (fun listed hf j hj => seqB_ready hf j hj) hsel hs2 hc2 hms ((l.drop (i + 1)).take (m - (i + 1))) (i + 1) _ a2 (fun j hj => by
        have hj' : j < m - (i + 1) := by rw [htl2] at hj; exact hj
        simp [List.getElem?_drop, hj']) (by rw [htl2]; omega) inv2 (by rw [htl2]; exact hh) h2
      have := wpAny_of_head (Q' := Q) (g := l.toArray.size - m) (fun listed3 a3 hL3 => by
        have := wpAny_of_seq (md := .any) (Q' := Q) (l.drop m) m listed3 a3 w2 (fun j => by simp [List.getElem?_drop]) (by rw [hdl]; exact hL3.2.1) hL3.2.2
        rwa [hdl] at this) _ _ _ H2
      rw [htl2, show m - (i + 1) + (l.toArray.size - m) = l.toArray.size - i - 1 by omega] at this
      exact this)
    split
    · rename_i hw
      rw [if_pos hw] at hk
      exact Or.inl hk
    · rename_i hw
      rw [if_neg hw] at hk
      exact hk) _ _ _ H
  rw [htl, show n + (l.toArray.size - n) = l.toArray.size by omega] at key
  exact key
/-- the same, what follows hidden behind letters -/
theorem wp_region_two' {id : Nat} {Q : Exit → Act → World → Prop} {a : Act} {w : World} {l : List Oper} (n m : Nat) {o : Oper} (ho : l[n]? = some o) (hm : P.follows .mixedOrders = true) (hB : twoB .any l.toArray n m = true)
    (h : ∀ L0 : Act → Prop, (∀ a1, (∀ K : Act → World → Prop, (∀ a2 w2, (∀ L : Act → Prop, (∀ a3, wpList P l.toArray Q (l.drop m) a3 w2 → L a3) → wpStill P l.toArray w2 L ((l.drop (n + 1)).take (m - (n + 1))) a2) → K a2 w2) →
      if Region.wanted o (yielded l.toArray a1.tmps) = true then o.wp P a1 { w with drawn := w.drawn + 1 } K Q else K (a1.put o.dst undef) { w with drawn := w.drawn + 1 }) → L0 a1) → wpStill P l.toArray { w with drawn := w.drawn + 1 } L0 (l.take n) a) : (Code.region id l.toArray true).wp P Q a w :=
  wp_region_two n m ho hm hB (h _ fun a1 hk K hK => hk K fun a2 w2 hL => hK a2 w2 (hL _ fun a3 h => h))
end
end Go.Proofs.YtpgncjfmaeiaaaaDoor.Is
