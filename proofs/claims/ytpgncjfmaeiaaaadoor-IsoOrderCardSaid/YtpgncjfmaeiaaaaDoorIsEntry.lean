/- The two halves of 'm[k] = v' among others on the left. Conditions: none. -/
import Derived.Test.YtpgncjfmaeiaaaaDoorIsPair
import Derived.WideKeyEntry
set_option linter.unusedVariables false
namespace Go.Proofs.YtpgncjfmaeiaaaaDoor.Is
open Go.RowKit
open Go.Maps (Keyed)
open Go.ChangeMaps (setBlock modify_eq_set)
open Go.WideElems (Fit findIdx_born findIdx_arr modify_last set_self)
variable {P : Program}
/-- an entry is asked for, its value stored later, into a world where the map lies as it lay: as 'm[k] = v' -/
theorem entry_halves {H : Type} {R : Value → Option (DataW H × List MemPlace)} {w : World} {t k e : TypeId} {b : Nat} {es : Array MapEntry} {clock : Nat} (K : Keyed P k) (ht : P.underlying t = some (.map k e)) {z : Value} (hz : ∀ u : World, (zeroValue e).run P u = .ok z u)
    (hb : w.heap[b]? = some (.map es clock)) (F : Fit P k R es clock) {key : Value} {kl : Lit} (hkey : keyOf P k key = some kl) :
    ∃ (v0 : Value) (st : Nat) (o1 : Obj), (Instr.mapEntry t (.map (some b)) key).run P w = .ok (.tuple #[v0, goInt st]) (setBlock w b o1) ∧
      ∀ (w2 : World) (val : Value), w2.heap[b]? = some o1 → ∃ o2, (Instr.entryStore t (.map (some b)) (goInt st) val).run P w2 = .ok () (setBlock w2 b o2) ∧ (Instr.mapUpdate t (.map (some b)) key val).run P w = .ok () (setBlock w b o2) := by
  have hs := F.stamped.1
  have hd := F.stamped.2.1
  rcases K.find w hkey es.toList (fun x hx => by
    obtain ⟨y, hy⟩ := F.reads x hx
    exact ⟨_, Go.WideElems.rd_key hy⟩) with ⟨h1, h2⟩ | ⟨j, e0, h1, h2, h3⟩
  · have hnew : (es.push ⟨key, z, clock⟩).findIdx? (fun x => ((x.born : Nat) : Int) == ((clock : Nat) : Int)) = some es.size := by
      rw [findIdx_arr]
      refine findIdx_born (l := (es.push ⟨key, z, clock⟩).toList) (j := es.size) (e0 := ⟨key, z, clock⟩) ?_ (by simp)
      rw [Array.toList_push, List.map_append, List.nodup_append]
      refine ⟨hd, by simp, fun p hp q hq => ?_⟩
      simp at hq
      obtain ⟨x, hx, rfl⟩ := List.mem_map.1 hp
      have := hs x hx
      omega
    refine ⟨z, clock, .map (es.push ⟨key, z, clock⟩) (clock + 1), ?_, fun w2 val hw => ⟨.map (es.push ⟨key, val, clock⟩) (clock + 1), ?_, ?_⟩⟩
    · simp [Instr.mapEntry, run_underlying ht, MapKept.run_getObj_map hb, K.check w false hkey, h1, hz, MapKept.run_setObj_map _ hb, Result.andThen, setBlock]
    · have hm : (es.push ⟨key, z, clock⟩).modify es.size (fun x => { x with val := val }) = es.push ⟨key, val, clock⟩ := by
        apply Array.ext'
        rw [Array.toList_modify, Array.toList_push, Array.toList_push, ← Array.length_toList, modify_last]
      simp [Instr.entryStore, MapKept.run_getObj_map hw, asInt, asIntOf, goInt, hnew, hm, MapKept.run_setObj_map _ hw, Result.andThen, setBlock]
    · simp [Instr.mapUpdate, run_underlying ht, MapKept.run_getObj_map hb, K.check w false hkey, h1, MapKept.run_setObj_map _ hb, Result.andThen, setBlock]
  · have hj : es[j]? = some e0 := by simpa using h2
    have hkeep : es.modify j (fun x => { x with key := key }) = es := by
      apply Array.ext'
      rw [Array.toList_modify, modify_eq_set _ _ _ _ h2, ← h3]
      exact set_self _ _ _ h2
    have hold : es.findIdx? (fun x => ((x.born : Nat) : Int) == ((e0.born : Nat) : Int)) = some j := by
      rw [findIdx_arr]
      exact findIdx_born hd h2
    refine ⟨e0.val, e0.born, .map es clock, ?_, fun w2 val hw => ⟨.map (es.modify j (fun x => { x with key := key, val := val })) clock, ?_, ?_⟩⟩
    · simp [Instr.mapEntry, run_underlying ht, MapKept.run_getObj_map hb, K.check w false hkey, h1, hj, h3, K.stays w hkey, hkeep, MapKept.run_setObj_map _ hb, Result.andThen, setBlock]
    · have hm : es.modify j (fun x => { x with val := val }) = es.modify j (fun x => { x with key := key, val := val }) := by
        apply Array.ext'
        rw [Array.toList_modify, Array.toList_modify, modify_eq_set _ _ _ _ h2, modify_eq_set _ _ _ _ h2, ← h3]
      simp [Instr.entryStore, MapKept.run_getObj_map hw, asInt, asIntOf, goInt, hold, hm, MapKept.run_setObj_map _ hw, Result.andThen, setBlock]
    · simp [Instr.mapUpdate, run_underlying ht, MapKept.run_getObj_map hb, K.check w false hkey, h1, hj, h3, K.stays w hkey, MapKept.run_setObj_map _ hb, Result.andThen, setBlock]
theorem setBlock_heap {w : World} {b : Nat} (h : b < w.heap.size) (o : Obj) : (setBlock w b o).heap[b]? = some o := by
  unfold setBlock
  simp [h]
theorem setBlock_grown (w : World) (b : Nat) (o : Obj) : w.grownBy (setBlock w b o) (some b) := ⟨rfl, rfl, rfl, by simp [setBlock], fun i _ hi => by
  simp only [setBlock]
  rw [Array.getElem?_setIfInBounds]
  rw [if_neg (fun e => hi (by rw [e]))]⟩
theorem MF.entry {w : World} {kt t e : TypeId} {b n : Nat} {f : Value → Option Value} (h : MF w kt b n f) (K : Keyed Tryd.prog kt) (ht : Tryd.prog.underlying t = some (.map kt e)) {z : Value} (hz : ∀ u : World, (zeroValue e).run Tryd.prog u = .ok z u) (hn : n < maxLen) {key : Value} {kl : Lit} (hkey : keyOf Tryd.prog kt key = some kl) :
    ∃ (v0 : Value) (st : Nat) (o1 : Obj), (Instr.mapEntry t (.map (some b)) key).run Tryd.prog w = .ok (.tuple #[v0, goInt st]) (setBlock w b o1) ∧
      ∀ (w2 : World) (val : Value) (d : Dat) (ps : List MemPlace), w2.heap[b]? = some o1 → RX val = some (d, ps) → ∃ w3, (Instr.entryStore t (.map (some b)) (goInt st) val).run Tryd.prog w2 = .ok () w3 ∧ MF w3 kt b (n + 1) (put1 f key val) ∧ w2.grownBy w3 (some b) := by
  obtain ⟨D, ⟨es, clock, hb, F, hsz, hD⟩, h2⟩ := h
  have M : MF w kt b n f := ⟨D, ⟨es, clock, hb, F, hsz, hD⟩, h2⟩
  obtain ⟨v0, st, o1, hr, hst⟩ := entry_halves K ht hz hb F hkey
  refine ⟨v0, st, o1, hr, fun w2 val d ps hw hv => ?_⟩
  obtain ⟨o2, h3, h4⟩ := hst w2 val hw
  obtain ⟨w', h5, h6, h7⟩ := M.update K ht hn hkey hv
  rw [h4] at h5
  injection h5 with _ h5
  subst h5
  have hlt : b < w2.heap.size := (Array.getElem?_eq_some_iff.1 hw).1
  refine ⟨_, h3, ?_, setBlock_grown _ _ _⟩
  obtain ⟨D', ⟨es', clock', hb', r⟩, h8⟩ := h6
  refine ⟨D', ⟨es', clock', ?_, r⟩, h8⟩
  rw [setBlock_heap M.lt] at hb'
  rw [setBlock_heap hlt]
  exact hb'
end Go.Proofs.YtpgncjfmaeiaaaaDoor.Is
