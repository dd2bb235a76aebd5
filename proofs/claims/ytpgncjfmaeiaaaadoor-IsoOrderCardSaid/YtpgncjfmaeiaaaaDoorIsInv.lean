/- A region that draws its order, by what stays true from operation to operation. Conditions: none. -/
import Derived.Test.YtpgncjfmaeiaaaaDoorIsTwo
set_option linter.unusedVariables false
namespace Go.Proofs.YtpgncjfmaeiaaaaDoor.Is
section
variable {P : Program} {ops : Array Oper} {md : Region.Mode}
/-- how many are not listed -/
def unlisted (listed : Array Bool) : Nat := (listed.toList.filter fun b => !b).length
theorem filter_set : ∀ (l : List Bool) (i : Nat), l[i]? = some false → ((l.set i true).filter fun b => !b).length + 1 = (l.filter fun b => !b).length
  | [], i, h => by simp at h
  | b :: l, 0, h => by
    have hb : b = false := by simpa using h
    subst hb
    simp
  | b :: l, i + 1, h => by
    have ih := filter_set l i (by simpa using h)
    rw [List.set_cons_succ]
    cases b
    · simp only [List.filter_cons, Bool.not_false, if_true, List.length_cons]
      omega
    · simpa [List.filter_cons] using ih
theorem unlisted_set {listed : Array Bool} {i : Nat} (h : listed.getD i true = false) : unlisted (listed.setIfInBounds i true) + 1 = unlisted listed := by
  unfold unlisted
  rw [Array.toList_setIfInBounds]
  refine filter_set _ i ?_
  have hi : i < listed.size := by
    rcases Nat.lt_or_ge i listed.size with h' | h'
    · exact h'
    · simp [Array.getElem?_eq_none h'] at h
  simp [hi] at h ⊢
  exact h
theorem ready_unlisted {listed : Array Bool} {i : Nat} (h : i ∈ Region.ready md ops listed) : listed.getD i true = false := (mem_ready.1 h).1
theorem unlisted_pos {listed : Array Bool} {i : Nat} (h : listed.getD i true = false) : 0 < unlisted listed := by
  have := unlisted_set h
  omega
/-- what stays true -/
theorem wpAny_inv {Q : Exit → Act → World → Prop} (Inv : Array Bool → Act → World → Prop)
    (step : ∀ listed a w i, Inv listed a w → i ∈ Region.ready md ops listed → wpOp P ops Q i (fun a' w' => Inv (listed.setIfInBounds i true) a' w') a w)
    (fin : ∀ listed a w, Inv listed a w → Region.ready md ops listed = [] → Q .normal a w) :
    ∀ (f : Nat) (listed : Array Bool) (a : Act) (w : World), unlisted listed ≤ f → Inv listed a w → wpAny P md ops Q f listed a w
  | 0, listed, a, w, hf, h => by
    have hr : Region.ready md ops listed = [] := by
      cases hrd : Region.ready md ops listed with
      | nil => rfl
      | cons i r =>
        have := unlisted_pos (ready_unlisted (md := md) (ops := ops) (i := i) (by rw [hrd]; simp))
        omega
    exact ⟨hr, fin listed a w h hr⟩
  | f + 1, listed, a, w, hf, h => by
    refine ⟨fun hr => fin listed a w h hr, fun i hi => ?_⟩
    refine wpOp_mono (fun a' w' h' => wpAny_inv Inv step fin f _ a' w' ?_ h') (step listed a w i h hi)
    have := unlisted_set (ready_unlisted hi)
    omega
theorem wp_region_inv {id : Nat} {Q : Exit → Act → World → Prop} {a : Act} {w : World} {l : List Oper} (hm : P.follows .mixedOrders = true) (Inv : Array Bool → Act → World → Prop)
    (h0 : Inv (Array.replicate l.toArray.size false) a { w with drawn := w.drawn + 1 })
    (step : ∀ listed a w i, Inv listed a w → i ∈ Region.ready .any l.toArray listed → wpOp P l.toArray Q i (fun a' w' => Inv (listed.setIfInBounds i true) a' w') a w)
    (fin : ∀ listed a w, Inv listed a w → Region.ready .any l.toArray listed = [] → Q .normal a w) : (Code.region id l.toArray true).wp P Q a w := by
  refine wp_region_any hm (wpAny_inv Inv step fin _ _ _ _ ?_ h0)
  unfold unlisted
  refine Nat.le_trans (List.length_filter_le _ _) ?_
  simp
/-- all are listed where none may come up: if each waits for earlier ones alone -/
theorem all_listed {listed : Array Bool} (hs : listed.size = ops.size) (he : (List.range ops.size).all (fun t => match ops[t]? with | some o => o.after.all fun e => decide (e.on < t) | none => true) = true) (hr : Region.ready md ops listed = []) : ∀ i, i < ops.size → listed.getD i false = true := by
  intro i
  induction i using Nat.strongRecOn with
  | _ i ih =>
    intro hi
    cases hl : listed.getD i false with
    | true => rfl
    | false =>
      exfalso
      have h1 := List.all_eq_true.1 he i (List.mem_range.2 hi)
      obtain ⟨o, ho⟩ : ∃ o, ops[i]? = some o := ⟨ops[i], Array.getElem?_eq_getElem hi⟩
      rw [ho] at h1
      have hm : i ∈ Region.ready md ops listed := mem_ready.2 ⟨getD_in (by omega) hl, o, ho, fun e he2 hb => by
        have h2 := Array.all_eq_true'.1 h1 e he2
        simp only [decide_eq_true_eq] at h2
        exact ih e.on h2 (by omega)⟩
      rw [hr] at hm
      cases hm
/-- an operation with a value -/
theorem wpOp_val {Q : Exit → Act → World → Prop} {K : Act → World → Prop} {a : Act} {w w' : World} {i : Nat} {o : Oper} {v : Value} (ho : ops[i]? = some o) (hw : Region.wanted o (yielded ops a.tmps) = true) (e : (execOp a.eval o).run P w = .ok (.value v) w') (h : K (a.put o.dst v) w') : wpOp P ops Q i K a w := by
  unfold wpOp
  simp only [ho]
  rw [if_pos hw]
  refine Or.inl ?_
  unfold Oper.wp
  rw [e]
  exact h
/-- one without -/
theorem wpOp_skip {Q : Exit → Act → World → Prop} {K : Act → World → Prop} {a : Act} {w w' : World} {i : Nat} {o : Oper} (ho : ops[i]? = some o) (hw : Region.wanted o (yielded ops a.tmps) = true) (e : (execOp a.eval o).run P w = .ok .skip w') (h : K (a.put o.dst undef) w') : wpOp P ops Q i K a w := by
  unfold wpOp
  simp only [ho]
  rw [if_pos hw]
  refine Or.inl ?_
  unfold Oper.wp
  rw [e]
  exact h
/-- a call -/
theorem wpOp_call {Q : Exit → Act → World → Prop} {K : Act → World → Prop} {a : Act} {w : World} {i : Nat} {o : Oper} {f : FuncId} {args : Array Value} {C : Ending → World → Prop} (ho : ops[i]? = some o) (hw : Region.wanted o (yielded ops a.tmps) = true) (e : (execOp a.eval o).run P w = .ok (.enter f args) w) (hc : Calls P f args w C) (h : ∀ e' w', C e' w' → ∃ v, e' = .returned v ∧ K (a.put o.dst v) w') : wpOp P ops Q i K a w := by
  unfold wpOp
  simp only [ho]
  rw [if_pos hw]
  refine Or.inl ?_
  unfold Oper.wp
  rw [e, Oper.upon_enter]
  refine hc.mono fun e' w' hC => ?_
  obtain ⟨v, rfl, hk⟩ := h e' w' hC
  exact hk
theorem put_same {a : Act} {d : Nat} {v : Value} (h : d < a.tmps.size) : (a.put (some d) v).tmps[d]? = some v := by
  simp [Act.put, h]
theorem put_other {a : Act} {d s : Nat} {v : Value} (h : d ≠ s) : (a.put (some d) v).tmps[s]? = a.tmps[s]? := by
  simp [Act.put, h]
end
end Go.Proofs.YtpgncjfmaeiaaaaDoor.Is
