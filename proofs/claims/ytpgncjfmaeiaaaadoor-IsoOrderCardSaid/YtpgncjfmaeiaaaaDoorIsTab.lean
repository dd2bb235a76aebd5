/- A region that draws its order, of which each operation ahead of a tail has a value of its own kind, whatever came ahead: what is known of each is kept in a table. Conditions: the region's own shape, reckoned. -/
import Derived.Test.YtpgncjfmaeiaaaaDoorIsInv
set_option linter.unusedVariables false
namespace Go.Proofs.YtpgncjfmaeiaaaaDoor.Is
section
variable {P : Program} {ops : Array Oper} {md : Region.Mode}
/-- the activation with the values of the first k put -/
def putAll (base : Act) (dst : Nat → Nat) (vs : Nat → Value) : Nat → Act
  | 0 => base
  | k + 1 => (putAll base dst vs k).put (some (dst k)) (vs k)
theorem putAll_size (base : Act) (dst : Nat → Nat) (vs : Nat → Value) : ∀ k, (putAll base dst vs k).tmps.size = base.tmps.size
  | 0 => rfl
  | k + 1 => by simp [putAll, Act.put, putAll_size base dst vs k]
theorem putAll_defers (base : Act) (dst : Nat → Nat) (vs : Nat → Value) : ∀ k, (putAll base dst vs k).defers = base.defers
  | 0 => rfl
  | k + 1 => by simp [putAll, Act.put, putAll_defers base dst vs k]
theorem putAll_other (base : Act) (dst : Nat → Nat) (vs : Nat → Value) (s : Nat) : ∀ k, (∀ j, j < k → dst j ≠ s) → (putAll base dst vs k).tmps[s]? = base.tmps[s]?
  | 0, _ => rfl
  | k + 1, h => by
    rw [putAll, put_other (h k (by omega))]
    exact putAll_other base dst vs s k fun j hj => h j (by omega)
theorem putAll_same (base : Act) (dst : Nat → Nat) (vs : Nat → Value) : ∀ k, (∀ i j, i < k → j < k → dst i = dst j → i = j) → (∀ j, j < k → dst j < base.tmps.size) → ∀ j, j < k → (putAll base dst vs k).tmps[dst j]? = some (vs j)
  | 0, _, _, j, hj => absurd hj (by omega)
  | k + 1, hi, hs, j, hj => by
    rcases Nat.lt_or_ge j k with h | h
    · rw [putAll, put_other (fun e => by have := hi k j (by omega) (by omega) e; omega)]
      exact putAll_same base dst vs k (fun i j hi' hj' => hi i j (by omega) (by omega)) (fun j hj => hs j (by omega)) j h
    · obtain rfl : j = k := by omega
      rw [putAll, put_same (by rw [putAll_size]; exact hs j hj)]
theorem act_ext {a b : Act} (hd : a.defers = b.defers) (h : ∀ s : Nat, a.tmps[s]? = b.tmps[s]?) : a = b := by
  obtain ⟨x, d⟩ := a
  obtain ⟨y, e⟩ := b
  obtain rfl : d = e := hd
  obtain rfl : x = y := Array.ext_getElem? h
  rfl
/-- what is known on the way -/
structure TabInv (ops : Array Oper) (md : Region.Mode) (base : Act) (n : Nat) (dst : Nat → Nat) (W : World → Prop) (F : Nat → Value → World → Prop) (G : Nat → Value → Nat → Value → Prop) (listed : Array Bool) (a : Act) (w : World) : Prop where
  head : HeadInv md ops n listed
  size : a.tmps.size = base.tmps.size
  defers : a.defers = base.defers
  rest : ∀ s, (∀ j, j < n → dst j ≠ s) → a.tmps[s]? = base.tmps[s]?
  world : W w
  fact : ∀ j, j < n → listed.getD j false = true → ∃ v, a.tmps[dst j]? = some v ∧ F j v w
  pairs : ∀ i j u v, i < n → j < n → i ≠ j → listed.getD i false = true → listed.getD j false = true → a.tmps[dst i]? = some u → a.tmps[dst j]? = some v → G i u j v
/-- what an operation has to do -/
def TabStep (n : Nat) (W : World → Prop) (F : Nat → Value → World → Prop) (G : Nat → Value → Nat → Value → Prop) (i : Nat) (w : World) (v : Value) (w' : World) : Prop :=
  W w' ∧ F i v w' ∧ ∀ j u, j < n → j ≠ i → F j u w → F j u w' ∧ G i v j u ∧ G j u i v
/-- the first n listed -/
def firsts (n : Nat) (l : Array Bool) : Array Bool := (List.range n).foldl (fun l j => l.setIfInBounds j true) l
theorem firsts_succ (n : Nat) (l : Array Bool) : firsts (n + 1) l = (firsts n l).setIfInBounds n true := by
  simp [firsts, List.range_succ]
def tabB (md : Region.Mode) (ops : Array Oper) (n : Nat) (dst : Nat → Nat) (size : Nat) : Bool :=
  decide (n < ops.size) && Region.sinkB md ops n && waitB md ops n && ((List.range n).all fun j => (match ops[j]? with | some o => o.dst == some (dst j) && (o.after.all fun e => decide (e.on < j)) | none => false) && decide (dst j < size) && (List.range n).all fun i => i == j || dst i != dst j)
    && Region.seqB md ops (ops.size - n) n (firsts n (Array.replicate ops.size false))
theorem first_listed (m : Nat) : ∀ n, n ≤ m → ∀ t, (firsts n (Array.replicate m false))[t]? = if t < n then some true else if t < m then some false else none
  | 0, _, t => by
    by_cases h : t < m
    · simp [h, firsts]
    · simp [h, firsts]
  | n + 1, h, t => by
    rw [firsts_succ]
    have ih := first_listed m n (by omega)
    generalize firsts n (Array.replicate m false) = L at ih ⊢
    have hn : n < L.size := by
      rcases Nat.lt_or_ge n L.size with h' | h'
      · exact h'
      · have := ih n
        rw [Array.getElem?_eq_none h'] at this
        simp at this
        omega
    rw [Array.getElem?_setIfInBounds]
    by_cases h1 : n = t
    · subst h1
      simp [hn]
    · rw [if_neg h1, ih t]
      by_cases h2 : t < n
      · simp [h2, show t < n + 1 by omega]
      · simp [h2, show ¬ t < n + 1 by omega]
theorem unlisted_first (m n : Nat) (h : n ≤ m) : unlisted (firsts n (Array.replicate m false)) = m - n := by
  have hl : (firsts n (Array.replicate m false)).toList = List.replicate n true ++ List.replicate (m - n) false := by
    refine List.ext_getElem? fun t => ?_
    rw [Array.getElem?_toList, first_listed m n h t]
    by_cases h1 : t < n
    · rw [if_pos h1, List.getElem?_append_left (by simpa using h1)]
      simp [h1]
    · rw [if_neg h1, List.getElem?_append_right (by simpa using h1)]
      by_cases h2 : t < m
      · rw [if_pos h2, List.getElem?_replicate, if_pos (by simp; omega)]
      · rw [if_neg h2, List.getElem?_replicate, if_neg (by simp; omega)]
  unfold unlisted
  rw [hl]
  simp
theorem wp_one {Q : Exit → Act → World → Prop} {K K' : Act → World → Prop} {o : Oper} {a : Act} {w : World} (hK : ∀ a w, K' a w → K a w) (h : o.wp P a w K' (fun e a w => e = .normal ∧ K' a w)) : o.wp P a w K Q := by
  unfold Oper.wp at *
  generalize (execOp a.eval o).run P w = r at *
  cases r with
  | ok n w' =>
    cases n <;> simp only [Oper.upon] at h ⊢ <;>
      first
        | exact hK _ _ h
        | exact h
        | exact Calls.mono h (fun e w'' he => by
            cases e with
            | returned v => exact hK _ _ he
            | panicked c => exact absurd he.1 (by simp)
            | outgrown => obtain ⟨a, w, h1, _⟩ := he; cases h1)
        | exact Rows.mono h (fun _ _ he => hK _ _ he)
  | halt x w' =>
    cases x <;> simp only [Oper.upon] at h ⊢ <;> first | exact h | exact absurd h.1 (by simp)
theorem wpOp_list {Q : Exit → Act → World → Prop} {K K' : Act → World → Prop} {i : Nat} {o : Oper} {a : Act} {w : World} (ho : ops[i]? = some o) (hK : ∀ a w, K' a w → K a w) (h : wpList P ops (fun e a w => e = .normal ∧ K' a w) [o] a w) : wpOp P ops Q i K a w := by
  unfold wpList at h
  unfold wpOp
  simp only [ho]
  split
  · rename_i hw
    rw [if_pos hw] at h
    refine Or.inl (wp_one (K' := fun a w => K' a w) hK ?_)
    rcases h with h | ⟨_, a, w, h1, _⟩
    · exact Oper.wp_mono (fun a w h => by unfold wpList at h; exact h.2) h
    · cases h1
  · rename_i hw
    rw [if_neg hw] at h
    unfold wpList at h
    exact hK _ _ h.2
variable {id : Nat} {Q : Exit → Act → World → Prop} {base : Act} {w : World} {l : List Oper}
theorem wpAny_table {n : Nat} {dst : Nat → Nat} {W : World → Prop} {F : Nat → Value → World → Prop} {G : Nat → Value → Nat → Value → Prop} (hB : tabB .any l.toArray n dst base.tmps.size = true)
    (step : ∀ i o us w, i < n → l[i]? = some o → W w → (∀ e ∈ o.after, Region.binds .any e = true → F e.on (us e.on) w) → ∀ K : Exit → Act → World → Prop,
      (∀ v w', TabStep n W F G i w v w' → K .normal ((putAll base dst us n).put (some (dst i)) v) w') → wpList P l.toArray K [o] (putAll base dst us n) w)
    (fin : ∀ vs w, W w → (∀ j, j < n → F j (vs j) w) → (∀ i j, i < n → j < n → i ≠ j → G i (vs i) j (vs j)) → wpList P l.toArray Q (l.drop n) (putAll base dst vs n) w) :
    ∀ (f : Nat) (listed : Array Bool) (a : Act) (w : World), unlisted listed = f → TabInv l.toArray .any base n dst W F G listed a w → wpAny P .any l.toArray Q f listed a w := by
  simp only [tabB, Bool.and_eq_true, decide_eq_true_eq] at hB
  obtain ⟨⟨⟨⟨hn, hs⟩, hc⟩, hd⟩, hq⟩ := hB
  have hD : ∀ j, j < n → (∃ o, l.toArray[j]? = some o ∧ o.dst = some (dst j) ∧ ∀ e ∈ o.after, e.on < j) ∧ dst j < base.tmps.size ∧ ∀ i, i < n → i = j ∨ dst i ≠ dst j := by
    intro j hj
    have h := List.all_eq_true.1 hd j (List.mem_range.2 hj)
    simp only [Bool.and_eq_true, decide_eq_true_eq] at h
    refine ⟨?_, h.1.2, fun i hi => ?_⟩
    · cases ho : l.toArray[j]? with
      | none => rw [ho] at h; simp at h
      | some o =>
        rw [ho] at h
        simp only [Bool.and_eq_true, beq_iff_eq] at h
        exact ⟨o, rfl, h.1.1.1, fun e he => by
          have := Array.all_eq_true'.1 h.1.1.2 e he
          simpa using this⟩
    · have := List.all_eq_true.1 h.2 i (List.mem_range.2 hi)
      simpa using this
  intro f
  induction f with
  | zero =>
    intro listed a w hf inv
    exfalso
    have h1 := unlisted_pos (inv.head.tail n (Nat.le_refl _) hn)
    omega
  | succ f ih =>
    intro listed a w hf inv
    by_cases hall : ∀ j, j < n → listed.getD j false = true
    · -- the tail
      have hL : listed = firsts n (Array.replicate l.toArray.size false) := by
        refine Array.ext_getElem? fun t => ?_
        rw [first_listed _ n (by omega) t]
        by_cases h1 : t < n
        · rw [if_pos h1]
          have h2 := hall t h1
          have h3 : t < listed.size := by rw [inv.head.size]; omega
          simp [h3] at h2 ⊢
          exact h2
        · rw [if_neg h1]
          by_cases h2 : t < l.toArray.size
          · rw [if_pos h2]
            have h3 := inv.head.tail t (by omega) h2
            have h4 : t < listed.size := by rw [inv.head.size]; exact h2
            simp [h4] at h3 ⊢
            exact h3
          · rw [if_neg h2]
            exact Array.getElem?_eq_none (by rw [inv.head.size]; omega)
      have hvs : ∃ vs : Nat → Value, ∀ j, j < n → a.tmps[dst j]? = some (vs j) ∧ F j (vs j) w := by
        refine ⟨fun j => if h : j < n then (inv.fact j h (hall j h)).choose else undef, fun j hj => ?_⟩
        simp only [dif_pos hj]
        exact (inv.fact j hj (hall j hj)).choose_spec
      obtain ⟨vs, hvs⟩ := hvs
      have ha : a = putAll base dst vs n := by
        refine act_ext (by rw [putAll_defers]; exact inv.defers) fun s => ?_
        by_cases hx : ∃ j, j < n ∧ dst j = s
        · obtain ⟨j, hj, rfl⟩ := hx
          rw [(hvs j hj).1, putAll_same base dst vs n (fun i j hi hj e => by
            rcases (hD j hj).2.2 i hi with h | h
            · exact h
            · exact absurd e h) (fun j hj => (hD j hj).2.1) j hj]
        · have hx' : ∀ j, j < n → dst j ≠ s := fun j hj e => hx ⟨j, hj, e⟩
          rw [inv.rest s hx', putAll_other base dst vs s n hx']
      have hw := fin vs w inv.world (fun j hj => (hvs j hj).2) (fun i j hi hj hij => inv.pairs i j _ _ hi hj hij (hall i hi) (hall j hj) (hvs i hi).1 (hvs j hj).1)
      rw [← ha] at hw
      have hlen : (l.drop n).length = f + 1 := by
        have h1 := unlisted_first l.toArray.size n (by omega)
        rw [← hL, hf] at h1
        simp only [List.length_drop]
        simp only [List.size_toArray] at h1
        omega
      have := wpAny_of_seq (md := .any) (Q' := Q) (l.drop n) n listed a w (fun j => by simp [List.getElem?_drop]) (by
        rw [show (l.drop n).length = l.toArray.size - n by simp, hL]
        exact hq) hw
      rwa [hlen] at this
    · obtain ⟨i, hi, hil⟩ : ∃ i, i < n ∧ listed.getD i true = false := by
        refine Classical.byContradiction fun hx => hall fun j hj => ?_
        cases hlj : listed.getD j false with
        | true => rfl
        | false => exact absurd ⟨j, hj, getD_in (by rw [inv.head.size]; omega) hlj⟩ hx
      refine ⟨fun h0 => ?_, fun j hj => ?_⟩
      · exfalso
        have hup : ∀ k, k < n → listed.getD k false = true := by
          intro k
          induction k using Nat.strongRecOn with
          | _ k ihk =>
            intro hk
            cases hl : listed.getD k false with
            | true => rfl
            | false =>
              exfalso
              obtain ⟨⟨o, ho, _, haf⟩, _⟩ := hD k hk
              have hm : k ∈ Region.ready .any l.toArray listed := mem_ready.2 ⟨getD_in (by rw [inv.head.size]; omega) hl, o, ho, fun e he _ => ihk e.on (haf e he) (by have := haf e he; omega)⟩
              rw [h0] at hm
              cases hm
        exact hall hup
      · have hjn := early hs hc hn inv.head hi hil hj
        obtain ⟨hjun, oj, hoj, hdone⟩ := mem_ready.1 hj
        obtain ⟨⟨o, ho, hod, haf⟩, hds, hinj⟩ := hD j hjn
        obtain rfl : o = oj := Option.some.inj (ho.symm.trans hoj)
        obtain ⟨us, hus⟩ : ∃ us : Nat → Value, ∀ k, k < n → a.tmps[dst k]? = some (us k) := by
          refine ⟨fun k => a.tmps.getD (dst k) undef, fun k hk => ?_⟩
          have h9 : dst k < a.tmps.size := by rw [inv.size]; exact (hD k hk).2.1
          simp [h9]
        have ha : a = putAll base dst us n := by
          refine act_ext (by rw [putAll_defers]; exact inv.defers) fun s => ?_
          by_cases hx : ∃ k, k < n ∧ dst k = s
          · obtain ⟨k, hk, rfl⟩ := hx
            rw [hus k hk, putAll_same base dst us n (fun i j hi hj e => by
              rcases (hD j hj).2.2 i hi with h | h
              · exact h
              · exact absurd e h) (fun j hj => (hD j hj).2.1) k hk]
          · have hx' : ∀ k, k < n → dst k ≠ s := fun k hk e => hx ⟨k, hk, e⟩
            rw [inv.rest s hx', putAll_other base dst us s n hx']
        have hst := step j o us w hjn (by simpa using ho) inv.world (fun e he hb => by
          obtain ⟨v, h1, h2⟩ := inv.fact e.on (by have := haf e he; omega) (hdone e he hb)
          rw [hus e.on (by have := haf e he; omega)] at h1
          injection h1 with h1
          rw [h1]
          exact h2)
        rw [← ha] at hst
        refine wpOp_list (K' := fun a' w' => ∃ v, a' = a.put (some (dst j)) v ∧ TabStep n W F G j w v w') ho ?_ (hst _ fun v w' h => ⟨rfl, v, rfl, h⟩)
        rintro a' w' ⟨v, rfl, hW, hFv, hFG⟩
        refine ih _ _ _ (by have := unlisted_set hjun; omega) ?_
        have hne : ∀ k, k < n → k ≠ j → dst j ≠ dst k := fun k hk hkj e => by
          rcases hinj k hk with h | h
          · exact hkj h
          · exact h e.symm
        have hsame : (a.put (some (dst j)) v).tmps[dst j]? = some v := put_same (by rw [inv.size]; exact hds)
        have hold : ∀ k, k ≠ j → (listed.setIfInBounds j true).getD k false = true → listed.getD k false = true := fun k hkj h => by
          rwa [getD_set_ne false (Ne.symm hkj)] at h
        refine ⟨inv.head.set hj hjn, by simp [Act.put, inv.size], by simp [Act.put, inv.defers], fun s hs => ?_, hW, fun k hk hlk => ?_, fun p q u x hp hq hpq hlp hlq hu hx => ?_⟩
        · rw [put_other (hs j hjn)]
          exact inv.rest s hs
        · by_cases hkj : k = j
          · subst hkj
            exact ⟨v, hsame, hFv⟩
          · obtain ⟨u, hu, hFu⟩ := inv.fact k hk (hold k hkj hlk)
            exact ⟨u, by rw [put_other (hne k hk hkj)]; exact hu, (hFG k u hk hkj hFu).1⟩
        · by_cases hpj : p = j
          · subst hpj
            have hqj : q ≠ p := Ne.symm hpq
            rw [hsame] at hu
            obtain rfl := Option.some.inj hu
            rw [put_other (hne q hq hqj)] at hx
            obtain ⟨u', hu', hFu⟩ := inv.fact q hq (hold q hqj hlq)
            obtain rfl := Option.some.inj (hu'.symm.trans hx)
            exact (hFG q _ hq hqj hFu).2.1
          · rw [put_other (hne p hp hpj)] at hu
            by_cases hqj : q = j
            · subst hqj
              rw [hsame] at hx
              obtain rfl := Option.some.inj hx
              obtain ⟨u', hu', hFu⟩ := inv.fact p hp (hold p hpj hlp)
              obtain rfl := Option.some.inj (hu'.symm.trans hu)
              exact (hFG p _ hp hpj hFu).2.2
            · rw [put_other (hne q hq hqj)] at hx
              exact inv.pairs p q u x hp hq hpq (hold p hpj hlp) (hold q hqj hlq) hu hx
theorem wp_region_table (n : Nat) (dst : Nat → Nat) (W : World → Prop) (F : Nat → Value → World → Prop) (G : Nat → Value → Nat → Value → Prop) (hm : P.follows .mixedOrders = true) (hB : tabB .any l.toArray n dst base.tmps.size = true) (h0 : W { w with drawn := w.drawn + 1 })
    (step : ∀ i o us w, i < n → l[i]? = some o → W w → (∀ e ∈ o.after, Region.binds .any e = true → F e.on (us e.on) w) → ∀ K : Exit → Act → World → Prop,
      (∀ v w', TabStep n W F G i w v w' → K .normal ((putAll base dst us n).put (some (dst i)) v) w') → wpList P l.toArray K [o] (putAll base dst us n) w)
    (fin : ∀ vs w, W w → (∀ j, j < n → F j (vs j) w) → (∀ i j, i < n → j < n → i ≠ j → G i (vs i) j (vs j)) → wpList P l.toArray Q (l.drop n) (putAll base dst vs n) w) : (Code.region id l.toArray true).wp P Q base w := by
  refine wp_region_any hm (wpAny_table hB step fin _ _ _ _ (by have := unlisted_first l.toArray.size 0 (by omega); simpa [firsts] using this) ?_)
  refine ⟨⟨by simp, fun j oj _ hl => (by rw [getD_replicate_false] at hl; cases hl), fun t _ ht => getD_in (by simpa using ht) (getD_replicate_false _ _)⟩, rfl, rfl, fun _ _ => rfl, h0, fun j _ hl => (by rw [getD_replicate_false] at hl; cases hl), fun i j u v _ _ _ hl => (by rw [getD_replicate_false] at hl; cases hl)⟩
end
end Go.Proofs.YtpgncjfmaeiaaaaDoor.Is
