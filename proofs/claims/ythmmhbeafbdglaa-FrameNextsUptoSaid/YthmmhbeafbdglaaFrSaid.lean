import Derived.Test.YthmmhbeafbdglaaFrLay
import Derived.Laws.OwnMore
namespace Go.Proofs.Ythmmhbeafbdglaa
open Go.RowKit
def numbered : Nat → List (List Nat) → List (Nat × List Nat)
  | _, [] => []
  | s, d :: r => (s, d) :: numbered (s + 1) r
theorem numbered_get : ∀ (l : List (List Nat)) (s i : Nat), (numbered s l)[i]? = l[i]?.map (fun d => (s + i, d))
  | [], _, _ => by simp [numbered]
  | d :: r, s, 0 => by simp [numbered]
  | d :: r, s, i + 1 => by simp [numbered, numbered_get r, Nat.add_assoc, Nat.add_comm 1]
theorem numbered_length : ∀ (l : List (List Nat)) (s : Nat), (numbered s l).length = l.length
  | [], _ => rfl
  | d :: r, s => by simp [numbered, numbered_length r]
theorem scan_app (N : Nat) : ∀ (l : List (List Nat)) (s : Nat) (r : List Nat), (∀ d ∈ l, d.length ≤ 262144) → 1 ≤ s → s + l.length ≤ 4611686018427387904 →
    scanL (l.length + N) s (layB s l ++ r) = numbered s l ++ scanL N (s + l.length) r ∧ scanT (l.length + N) s (layB s l ++ r) = sizeL l + scanT N (s + l.length) r
  | [], s, r, _, _, _ => by simp [layB, numbered, sizeL]
  | d :: l, s, r, hd, h1, hs => by
    have hd0 := hd d (by simp)
    rw [List.length_cons] at hs
    have ih := scan_app N l (s + 1) r (fun x hx => hd x (by simp [hx])) (by omega) (by omega)
    have e : layB s (d :: l) ++ r = frameB s d ++ (layB (s + 1) l ++ r) := by simp [layB]
    have hn := frame_next s d (layB (s + 1) l ++ r) h1 (by omega) hd0
    obtain ⟨p1, p2, p3, _, _⟩ := frame_parts s d (layB (s + 1) l ++ r) (by omega) hd0
    have hdr : (frameB s d ++ (layB (s + 1) l ++ r)).drop (20 + d.length) = layB (s + 1) l ++ r := by
      rw [List.drop_append, List.drop_eq_nil_of_le (by rw [frameB_length]; omega), frameB_length, Nat.sub_self, List.drop_zero, List.nil_append]
    rw [e, List.length_cons, Nat.add_right_comm l.length 1 N]
    simp only [scanL, scanT, hn, p1, p2, p3, and_self, if_true, hdr, ih.1, ih.2]
    refine ⟨by simp [numbered, Nat.add_assoc, Nat.add_comm 1], by simp [sizeL, Nat.add_assoc, Nat.add_comm 1]⟩
theorem scan_not {N s : Nat} {r : List Nat} (h : ¬ (nextE r = 0 ∧ seqOf r = s)) : scanL N s r = [] ∧ scanT N s r = 0 := by
  cases N with
  | zero => exact ⟨rfl, rfl⟩
  | succ n => simp only [scanL, scanT, if_neg h, and_self]
theorem scan_short {N s : Nat} {r : List Nat} (h : r.length < 20) : scanL N s r = [] ∧ scanT N s r = 0 := scan_not fun h' => by have := nextE_zero h'.1; omega
/-- what was laid is got, in a row -/
theorem scan_laid (l : List (List Nat)) (s N : Nat) (hd : ∀ d ∈ l, d.length ≤ 262144) (h1 : 1 ≤ s) (hs : s + l.length ≤ 4611686018427387904) (hN : l.length ≤ N) :
    scanL N s (layB s l) = numbered s l ∧ scanT N s (layB s l) = sizeL l := by
  obtain ⟨M, rfl⟩ : ∃ M, N = l.length + M := ⟨N - l.length, by omega⟩
  have h := scan_app M l s [] hd h1 hs
  have h0 := scan_short (N := M) (s := s + l.length) (r := []) (by simp)
  rw [List.append_nil, h0.1, h0.2, List.append_nil] at h
  exact h
theorem scan_other (l : List (List Nat)) (s N : Nat) (hd : ∀ d ∈ l, d.length ≤ 262144) (hs : s ≤ 4611686018427387904) :
    scanL N (s + 1) (layB s l) = [] ∧ scanT N (s + 1) (layB s l) = 0 := by
  cases l with
  | nil => exact scan_short (by simp [layB])
  | cons d l =>
    refine scan_not fun h => ?_
    obtain ⟨_, p2, _⟩ := frame_parts s d (layB (s + 1) l) hs (hd d (by simp))
    have : seqOf (layB s (d :: l)) = s := p2
    omega
instance : Inhabited FrN := ⟨⟨0, none, 0, []⟩⟩
theorem frameCells_at : ∀ (fs : List FrN) (i : Nat), i < fs.length → (frameCells fs)[2 * i]? = some (.int .i64 ((fs.getD i default).seq : Nat)) ∧ (frameCells fs)[2 * i + 1]? = some (.slice (fs.getD i default).A (fs.getD i default).bs.length (fs.getD i default).cap)
  | [], _, h => by simp at h
  | f :: r, 0, _ => by simp [frameCells, FrN.cells]
  | f :: r, i + 1, h => by
    have := frameCells_at r i (by simpa using h)
    have e : frameCells (f :: r) = .int .i64 (f.seq : Nat) :: .slice f.A f.bs.length f.cap :: frameCells r := by simp [frameCells, FrN.cells]
    rw [e, show 2 * (i + 1) = 2 * i + 1 + 1 by omega]
    simpa using this
/-- frames in a row -/
theorem frames_at {w : World} {base : Nat} {v : Value} {fs : List FrN} (h : w.ownsRow base 41 2 v fs.length (frameCells fs)) :
    ∃ (R : Option Addr) (cp : Nat), v = .slice R fs.length cp ∧ ∀ i : Nat, i < fs.length → ∃ b, R = some ⟨b, 0, none⟩ ∧ b < w.heap.size ∧ w.cell? ⟨b, 2 * i, none⟩ = some (.int .i64 ((fs.getD i default).seq : Nat)) ∧ w.cell? ⟨b, 2 * i + 1, none⟩ = some (.slice (fs.getD i default).A (fs.getD i default).bs.length (fs.getD i default).cap) := by
  by_cases h0 : fs.length = 0
  · rcases h.2 with ⟨rfl, h2⟩ | ⟨b, cap, cur, rfl, _⟩
    · exact ⟨none, 0, by rw [h2], fun i hi => by omega⟩
    · exact ⟨_, cap, rfl, fun i hi => by omega⟩
  · rcases h.2 with ⟨rfl, h2⟩ | ⟨b, cap, cur, rfl, hb, hh, _⟩
    · exact absurd h2 h0
    · refine ⟨_, cap, rfl, fun i hi => ⟨b, rfl, block_lt hh, ?_⟩⟩
      obtain ⟨e1, e2⟩ := frameCells_at fs i hi
      exact ⟨(h.cellAt (2 * i) (by omega)).trans e1, (h.cellAt (2 * i + 1) (by omega)).trans e2⟩
structure ScanGot (w : World) (R : Option Addr) (fs : List FrN) : Prop where
  cell : ∀ i : Nat, i < fs.length → ∃ b, R = some ⟨b, 0, none⟩ ∧ b < w.heap.size ∧ w.cell? ⟨b, 2 * i, none⟩ = some (.int .i64 ((fs.getD i default).seq : Nat)) ∧ w.cell? ⟨b, 2 * i + 1, none⟩ = some (.slice (fs.getD i default).A (fs.getD i default).bs.length (fs.getD i default).cap)
  each : ∀ f ∈ fs, BytesIn w f.A f.cap f.bs
theorem ScanGot.below {w w' : World} {R : Option Addr} {fs : List FrN} (h : ScanGot w R fs) (hb : Below w.heap.size w w') : ScanGot w' R fs :=
  ⟨fun i hi => by
    obtain ⟨b, h1, h2, h3, h4⟩ := h.cell i hi
    exact ⟨b, h1, Nat.lt_of_lt_of_le h2 hb.size, (hb.cell (p := ⟨b, 2 * i, none⟩) h2).trans h3, (hb.cell (p := ⟨b, 2 * i + 1, none⟩) h2).trans h4⟩, fun f hf => (h.each f hf).below hb⟩
/-- 'Scan', what it gives by letters -/
theorem scan_got (A : Option Addr) (cap : Nat) (bs : List Nat) (seq N : Nat) (w : World) (g : BytesIn w A cap bs) (hN : bs.length < N) (hlm : bs.length ≤ 1000000000) (h1 : 1 ≤ seq) :
    Calls Try.prog 28 #[.slice A bs.length cap, .int .i64 (seq : Nat)] w fun e w' => ∃ (R : Option Addr) (cp : Nat) (fs : List FrN), e = .returned (.tuple #[.slice R fs.length cp, .int .i64 (scanT N seq bs : Nat)]) ∧ Below w.heap.size w w' ∧ ScanGot w' R fs ∧ fs.map FrN.pair = scanL N seq bs := by
  refine (scan_any A cap bs seq N w g hN hlm h1).mono ?_
  rintro e w' ⟨vo, fs, rfl, hb, ho, he, hp⟩
  obtain ⟨R, cp, rfl, hc⟩ := frames_at ho
  exact ⟨R, cp, fs, rfl, hb, ⟨hc, fun f hf => (he f hf).into⟩, hp⟩
end Go.Proofs.Ythmmhbeafbdglaa
