/- Maps of the walk: what a map's block holds as a function of keys' values; keys that are structs. Conditions: none. -/
import Derived.Test.YtpgncjfmaeiaaaaDoorIsText
import Derived.Maps.Views
import Derived.DeepKeys4
set_option linter.unusedVariables false
namespace Go.Proofs.YtpgncjfmaeiaaaaDoor.Is
open Go.RowKit
open Go.Maps (Keyed)
abbrev Dat := DataW Unit
/-- how an element reads -/
def RX : Value → Option (Dat × List MemPlace)
  | .bool x => some (.lit (.bool x), [])
  | .int q x => some (.lit (.int q x), [])
  | .agg cs => match cs.toList with
    | [.int q a, .int r b] => some (.agg [.lit (.int q a), .lit (.int r b)], [])
    | _ => none
  | _ => none
theorem RX_pair (a b : Int) : RX (.agg #[.int .i64 a, .int .i64 b]) = some (.agg [.lit (.int .i64 a), .lit (.int .i64 b)], []) := rfl
theorem RX_agg {cs : Array Value} {d : Dat} {p : List MemPlace} (h : RX (.agg cs) = some (d, p)) : ∃ q a r b, cs = #[.int q a, .int r b] ∧ d = .agg [.lit (.int q a), .lit (.int r b)] := by
  simp only [RX] at h
  split at h
  · rename_i q a r b hl
    injection h with h
    injection h with h1 h2
    exact ⟨q, a, r, b, by rw [← Array.toList_inj]; exact hl, h1.symm⟩
  · cases h
theorem RX_bool {x : Bool} {d : Dat} {p : List MemPlace} (h : RX (.bool x) = some (d, p)) : d = .lit (.bool x) := by
  injection h with h
  injection h with h1 h2
  exact h1.symm
theorem RX_int {q : IntKind} {x : Int} {d : Dat} {p : List MemPlace} (h : RX (.int q x) = some (d, p)) : d = .lit (.int q x) := by
  injection h with h
  injection h with h1 h2
  exact h1.symm
theorem RX_inj {u v : Value} {d : Dat} {p q : List MemPlace} (h1 : RX u = some (d, p)) (h2 : RX v = some (d, q)) : u = v := by
  have key : ∀ {u : Value} {d : Dat} {p : List MemPlace}, RX u = some (d, p) → (∃ x, u = .bool x ∧ d = .lit (.bool x)) ∨ (∃ q x, u = .int q x ∧ d = .lit (.int q x)) ∨ ∃ q a r b, u = .agg #[.int q a, .int r b] ∧ d = .agg [.lit (.int q a), .lit (.int r b)] := by
    intro u d p h
    cases u with
    | bool x => exact Or.inl ⟨x, rfl, RX_bool h⟩
    | int q x => exact Or.inr (Or.inl ⟨q, x, rfl, RX_int h⟩)
    | agg cs =>
      obtain ⟨q, a, r, b, rfl, h'⟩ := RX_agg h
      exact Or.inr (Or.inr ⟨q, a, r, b, rfl, h'⟩)
    | _ => cases h
  rcases key h1 with ⟨x, rfl, e1⟩ | ⟨k, x, rfl, e1⟩ | ⟨k, a, r, b, rfl, e1⟩ <;> rcases key h2 with ⟨y, rfl, e2⟩ | ⟨k', y, rfl, e2⟩ | ⟨k', a', r', b', rfl, e2⟩ <;> rw [e1] at e2 <;> simp_all
/-- a map's block holds f, at most n of it -/
def MF (w : World) (kt : TypeId) (b n : Nat) (f : Value → Option Value) : Prop :=
  ∃ D : Dat, w.ownsMap Tryd.prog kt RX b n D ∧ ∀ kv kl, keyOf Tryd.prog kt kv = some kl → match f kv with
    | none => Maps.has D kl = false ∧ ∀ z, D.atKey kl z = z
    | some v => Maps.has D kl = true ∧ ∃ d ps, RX v = some (d, ps) ∧ ∀ z, D.atKey kl z = d
theorem MF.made (w : World) (kt : TypeId) : MF (w.alloc (.map #[] 0)) kt w.heap.size 0 (fun _ => none) :=
  ⟨_, World.ownsMap_made w _ kt RX, fun kv kl hk => ⟨rfl, fun z => rfl⟩⟩
theorem MF.lt {w : World} {kt : TypeId} {b n : Nat} {f : Value → Option Value} (h : MF w kt b n f) : b < w.heap.size := by
  obtain ⟨D, h1, _⟩ := h
  exact h1.lt
theorem MF.kept {w w' : World} {kt : TypeId} {b n : Nat} {f : Value → Option Value} {row : Option Nat} (h : MF w kt b n f) (hg : w.grownBy w' row) (hne : some b ≠ row) : MF w' kt b n f := by
  obtain ⟨D, h1, h2⟩ := h
  exact ⟨D, h1.kept hg hne, h2⟩
theorem below_grownBy {w w' : World} (h : Below w.heap.size w w') (row : Option Nat) : w.grownBy w' row := ⟨h.os, h.tape, h.output, h.size, fun k hk _ => h.block k hk⟩
theorem MF.below {w w' : World} {kt : TypeId} {b n : Nat} {f : Value → Option Value} (h : MF w kt b n f) (hb : Below w.heap.size w w') : MF w' kt b n f := h.kept (below_grownBy hb none) (by simp)
noncomputable def put1 (f : Value → Option Value) (k v : Value) : Value → Option Value := fun x => open Classical in if x = k then some v else f x
theorem put1_same (f : Value → Option Value) (k v : Value) : put1 f k v k = some v := by unfold put1; rw [if_pos rfl]
theorem put1_other {f : Value → Option Value} {k v x : Value} (h : x ≠ k) : put1 f k v x = f x := by unfold put1; rw [if_neg h]
theorem MF.update {w : World} {kt t e : TypeId} {b n : Nat} {f : Value → Option Value} (h : MF w kt b n f) (K : Keyed Tryd.prog kt) (ht : Tryd.prog.underlying t = some (.map kt e)) (hn : n < maxLen) {key val : Value} {kl : Lit} {d : Dat} {ps : List MemPlace}
    (hkey : keyOf Tryd.prog kt key = some kl) (hv : RX val = some (d, ps)) : ∃ w', (Instr.mapUpdate t (.map (some b)) key val).run Tryd.prog w = .ok () w' ∧ MF w' kt b (n + 1) (put1 f key val) ∧ w.grownBy w' (some b) := by
  obtain ⟨D, h1, h2⟩ := h
  obtain ⟨w', hr, ho, hg⟩ := h1.update K ht hn hkey hv
  refine ⟨w', hr, ⟨_, ho, fun kv kl' hk => ?_⟩, hg⟩
  have hm := h1.isMap
  by_cases hkk : kv = key
  · subst hkk
    obtain rfl : kl' = kl := Option.some.inj (hk.symm.trans hkey)
    rw [put1_same]
    exact ⟨Maps.has_put_same hm (K.key hk) d, d, ps, hv, fun z => Maps.atKey_put_same hm (K.key hk) d z⟩
  · rw [put1_other hkk]
    have hne : kl' ≠ kl := fun e => hkk (K.inj hk (e ▸ hkey))
    have h3 := h2 kv kl' hk
    cases hf : f kv with
    | none =>
      rw [hf] at h3
      exact ⟨(Maps.has_put_other hne d).trans h3.1, fun z => (Maps.atKey_put_other hne d z).trans (h3.2 z)⟩
    | some v =>
      rw [hf] at h3
      obtain ⟨h4, d', ps', h5, h6⟩ := h3
      exact ⟨(Maps.has_put_other hne d).trans h4, d', ps', h5, fun z => (Maps.atKey_put_other hne d z).trans (h6 z)⟩
theorem MF.look {w : World} {kt t e : TypeId} {b n : Nat} {f : Value → Option Value} (h : MF w kt b n f) (K : Keyed Tryd.prog kt) (ht : Tryd.prog.underlying t = some (.map kt e)) {z : Value} (hz : (zeroValue e).run Tryd.prog w = .ok z w) {zd : Dat} {zp : List MemPlace} (hzd : RX z = some (zd, zp))
    {key : Value} {kl : Lit} (hkey : keyOf Tryd.prog kt key = some kl) : (Instr.lookup t (.map (some b)) key false).run Tryd.prog w = .ok ((f key).getD z) w := by
  obtain ⟨D, h1, h2⟩ := h
  obtain ⟨v, ps, hr, hv⟩ := h1.lookup K ht hz hzd hkey
  have h3 := h2 key kl hkey
  rw [hr]
  cases hf : f key with
  | none =>
    rw [hf] at h3
    rw [h3.2] at hv
    rw [RX_inj hv hzd]
    rfl
  | some u =>
    rw [hf] at h3
    obtain ⟨_, d, ps', h5, h6⟩ := h3
    rw [h6] at hv
    rw [RX_inj hv h5]
    rfl
theorem MF.look_ok {w : World} {kt t e : TypeId} {b n : Nat} {f : Value → Option Value} (h : MF w kt b n f) (K : Keyed Tryd.prog kt) (ht : Tryd.prog.underlying t = some (.map kt e)) {z : Value} (hz : (zeroValue e).run Tryd.prog w = .ok z w) {zd : Dat} {zp : List MemPlace} (hzd : RX z = some (zd, zp))
    {key : Value} {kl : Lit} (hkey : keyOf Tryd.prog kt key = some kl) : (Instr.lookup t (.map (some b)) key true).run Tryd.prog w = .ok (.tuple #[(f key).getD z, .bool (f key).isSome]) w := by
  obtain ⟨D, h1, h2⟩ := h
  obtain ⟨v, ps, hr, hv⟩ := h1.look_ok K ht hz hzd hkey
  have h3 := h2 key kl hkey
  rw [hr]
  cases hf : f key with
  | none =>
    rw [hf] at h3
    rw [h3.2] at hv
    rw [RX_inj hv hzd, h3.1]
    rfl
  | some u =>
    rw [hf] at h3
    obtain ⟨h4, d, ps', h5, h6⟩ := h3
    rw [h6] at hv
    rw [RX_inj hv h5, h4]
    rfl
/-! ### keys -/
theorem laidOut' : laidOutB Tryd.prog = true := by kernel_rfl
theorem keyed_gkey : Keyed Tryd.prog 82 := Keyed.of_law (Go.deep_law_laid laidOut' (m := 2) (by omega) (of_decide_eq_true (by kernel_rfl)) (by kernel_rfl) (by rw [Tryd.underlying82]))
theorem keyed_ikey : Keyed Tryd.prog 60 := Keyed.of_law (Go.deep_law_laid laidOut' (m := 2) (by omega) (of_decide_eq_true (by kernel_rfl)) (by kernel_rfl) (by rw [Tryd.underlying60]))
theorem keyed_pair : Keyed Tryd.prog 55 := Keyed.of_law (Go.deep_law_laid laidOut' (m := 2) (by omega) (of_decide_eq_true (by kernel_rfl)) (by kernel_rfl) (by rw [Tryd.underlying55]))
theorem keyed_int : Keyed Tryd.prog 3 := Go.Maps.int_keyed Tryd.underlying3
theorem wfI {k : Int} (h : wf64 k) : (Lit.int .i64 k).wf = true := by
  unfold wf64 at h
  simp [Lit.wf, IntKind.min, IntKind.max, IntKind.signed, IntKind.bits]
  omega
theorem keyOf_gkey {k : Int} {s : ByteArray} (hk : wf64 k) (hs : s.size ≤ maxLen) : ∃ l, keyOf Tryd.prog 82 (.agg #[.int .i64 k, .string s]) = some l := by
  have h1 : Tryd.prog.keyType 82 = true := by kernel_rfl
  have h2 : (Value.agg #[.int .i64 k, .string s]).formed Tryd.prog 82 = true := by kernel_rfl
  have hc : Tryd.prog.cellsOf 82 = 2 := by kernel_rfl
  have hc1 : Tryd.prog.cellsOf 3 = 1 := by kernel_rfl
  have hc2 : Tryd.prog.cellsOf 9 = 1 := by kernel_rfl
  have hn : ∃ m, Tryd.prog.types.size + 1 = m + 2 := ⟨_, rfl⟩
  obtain ⟨m, hn⟩ := hn
  refine ⟨.string (keyBytes [.int .i64 k, .string s.data.toList]), ?_⟩
  unfold keyOf
  rw [Tryd.underlying82]
  simp only [h1, h2, Bool.and_self, if_true, hn]
  simp [Program.keyLits, Tryd.underlying82, Tryd.underlying3, Tryd.underlying9, Value.cells, hc, hc1, hc2, wfI hk, hs]
theorem keyOf_ikey {k : Int} {s : ByteArray} (hk : wf64 k) (hs : s.size ≤ maxLen) : ∃ l, keyOf Tryd.prog 60 (.agg #[.int .i64 k, .string s]) = some l := by
  have h1 : Tryd.prog.keyType 60 = true := by kernel_rfl
  have h2 : (Value.agg #[.int .i64 k, .string s]).formed Tryd.prog 60 = true := by kernel_rfl
  have hc : Tryd.prog.cellsOf 60 = 2 := by kernel_rfl
  have hc1 : Tryd.prog.cellsOf 3 = 1 := by kernel_rfl
  have hc2 : Tryd.prog.cellsOf 9 = 1 := by kernel_rfl
  have hn : ∃ m, Tryd.prog.types.size + 1 = m + 2 := ⟨_, rfl⟩
  obtain ⟨m, hn⟩ := hn
  refine ⟨.string (keyBytes [.int .i64 k, .string s.data.toList]), ?_⟩
  unfold keyOf
  rw [Tryd.underlying60]
  simp only [h1, h2, Bool.and_self, if_true, hn]
  simp [Program.keyLits, Tryd.underlying60, Tryd.underlying3, Tryd.underlying9, Value.cells, hc, hc1, hc2, wfI hk, hs]
theorem keyOf_pair {a b : Int} (ha : wf64 a) (hb : wf64 b) : ∃ l, keyOf Tryd.prog 55 (.agg #[.int .i64 a, .int .i64 b]) = some l := by
  have h1 : Tryd.prog.keyType 55 = true := by kernel_rfl
  have h2 : (Value.agg #[.int .i64 a, .int .i64 b]).formed Tryd.prog 55 = true := by kernel_rfl
  have hc : Tryd.prog.cellsOf 55 = 2 := by kernel_rfl
  have hc1 : Tryd.prog.cellsOf 3 = 1 := by kernel_rfl
  have hn : ∃ m, Tryd.prog.types.size + 1 = m + 2 := ⟨_, rfl⟩
  obtain ⟨m, hn⟩ := hn
  refine ⟨.string (keyBytes [.int .i64 a, .int .i64 b]), ?_⟩
  unfold keyOf
  rw [Tryd.underlying55]
  simp only [h1, h2, Bool.and_self, if_true, hn]
  simp [Program.keyLits, Tryd.underlying55, Tryd.underlying3, Value.cells, hc, hc1, wfI ha, wfI hb]
theorem keyOf_int {a : Int} (ha : wf64 a) : keyOf Tryd.prog 3 (.int .i64 a) = some (.int .i64 a) := Go.Maps.keyOf_int_mk Tryd.underlying3 (wfI ha)
end Go.Proofs.YtpgncjfmaeiaaaaDoor.Is
