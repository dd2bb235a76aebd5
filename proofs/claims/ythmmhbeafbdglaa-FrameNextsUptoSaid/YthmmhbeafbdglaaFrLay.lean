import Derived.Test.YthmmhbeafbdglaaFrScan
import Derived.Test.YthmmhbeafbdglaaLawFrPuts
namespace Go.Proofs.Ythmmhbeafbdglaa
open Go.RowKit
/-- frames of texts, by numbers from one on -/
def layB : Nat → List (List Nat) → List Nat
  | _, [] => []
  | s, d :: r => frameB s d ++ layB (s + 1) r
def sizeL (l : List (List Nat)) : Nat := (l.map (fun d => 20 + d.length)).sum
theorem layB_length : ∀ (l : List (List Nat)) (s : Nat), (layB s l).length = sizeL l
  | [], _ => rfl
  | d :: r, s => by simp [layB, frameB_length, layB_length r, sizeL]
theorem layB_snoc : ∀ (l : List (List Nat)) (s : Nat) (d : List Nat), layB s (l ++ [d]) = layB s l ++ frameB (s + l.length) d
  | [], s, d => by simp [layB]
  | x :: r, s, d => by simp [layB, layB_snoc r, Nat.add_assoc, Nat.add_comm 1]
theorem layB_bytes : ∀ (l : List (List Nat)) (s : Nat), (∀ d ∈ l, AllBytes d) → AllBytes (layB s l)
  | [], _, _ => by intro c hc; cases hc
  | d :: r, s, h => by
    intro c hc
    rcases List.mem_append.1 hc with hc | hc
    · exact frameB_bytes s d (h d (by simp)) c hc
    · exact layB_bytes r (s + 1) (fun x hx => h x (by simp [hx])) c hc
theorem sizeL_take (ps : List Part) (k : Nat) : sizeL ((ps.take k).map Part.bs) ≤ sizeL (ps.map Part.bs) := by
  conv => rhs; rw [← List.take_append_drop k ps]
  rw [List.map_append]
  unfold sizeL
  rw [List.map_append, List.sum_append]
  omega
theorem sizeL_ge (l : List (List Nat)) : 20 * l.length ≤ sizeL l := by
  induction l with
  | nil => simp [sizeL]
  | cons a r ih => simp [sizeL] at ih ⊢; omega
def LayPost (w : World) (seq : Nat) (ps : List Part) (e : Ending) (w' : World) : Prop :=
  Below w.heap.size w w' ∧ ((¬ (∀ p ∈ ps, p.bs.length ≤ 262144) ∧ e = .returned (.tuple #[.slice none 0 0, .bool false])) ∨
    ((∀ p ∈ ps, p.bs.length ≤ 262144) ∧ ∃ v, e = .returned (.tuple #[v, .bool true]) ∧ w'.ownsRow w.heap.size 5 1 v (layB seq (ps.map Part.bs)).length (cellsOf (layB seq (ps.map Part.bs)))))
def LayInv (w : World) (seq : Nat) (ps : List Part) (k : Nat) (b : Value) (wr : World) : Prop :=
  Below w.heap.size w wr ∧ (∀ p ∈ ps.take k, p.bs.length ≤ 262144) ∧ wr.ownsRow w.heap.size 5 1 b (layB seq ((ps.take k).map Part.bs)).length (cellsOf (layB seq ((ps.take k).map Part.bs)))
set_option maxHeartbeats 1600000 in
theorem lay_any (A : Option Addr) (cap : Nat) (ps : List Part) (seq : Nat) (w : World) (hA : PartsAt w A ps) (hps : ∀ p ∈ ps, PartOk w p) (hsz : sizeL (ps.map Part.bs) ≤ 30000000) (h1 : 1 ≤ seq) (h2 : seq ≤ 4294967296) :
    Calls Try.prog 27 #[.slice A ps.length cap, .int .i64 (seq : Nat)] w (LayPost w seq ps) := by
  have hlen : ps.length ≤ 1500000 := by have := sizeL_ge (ps.map Part.bs); simp at this; omega
  have PA := Lib.hid hA
  have PO := Lib.hid hps
  have SZ := Lib.hid hsz
  have H1 := Lib.hid h1
  have H2 := Lib.hid h2
  clear hA hps hsz h1 h2
  go_enter Try.func27, Try.ntmps27
  go_wp2_with fail
  go_loopw [6, 13] (fun b i wr => ∃ k : Nat, k ≤ ps.length ∧ i = .int .i64 k ∧ Hid (LayInv w seq ps k b wr)) (fun _ i _ => ps.length - (intOf i).toNat)
  case atStart => exact ⟨0, Nat.zero_le _, rfl, Below.refl _ _, by simp, ⟨by simp [layB, cellsOf], Or.inl ⟨rfl, rfl⟩⟩⟩
  case round =>
    obtain ⟨k, hk, rfl, hinv⟩ := hrel
    by_cases hlt : k < ps.length
    · obtain ⟨b, off, rfl, hbl, hc⟩ := parts_cell PA.out hlt
      have hmem : ps.getD k default ∈ ps := by rw [List.getD_eq_getElem?_getD, List.getElem?_eq_getElem hlt]; exact List.getElem_mem hlt
      have hok : PartOk wr (ps.getD k default) := (PO.out _ hmem).below hinv.out.1
      replace hc := (hinv.out.1.cell (p := ⟨b, off + k, none⟩) hbl).trans hc
      have htk := take_snoc ps k default hlt
      have hall := hinv.out.2.1
      have HSUM : sizeL ((ps.take (k + 1)).map Part.bs) ≤ 30000000 := Nat.le_trans (sizeL_take ps (k + 1)) SZ.out
      rw [htk] at HSUM
      have HTK := Lib.hid htk
      generalize ps.getD k default = p at HTK hok hc hmem HSUM
      obtain ⟨pA, pc, pb⟩ := p
      replace hc : wr.cell? ⟨b, off + k, none⟩ = some (.slice pA pb.length pc) := hc
      have hgi : BytesIn wr pA pc pb := ⟨hok.bytes, hok.at_, hok.cap, hok.len, hok.nil_⟩
      obtain ⟨n, HNK⟩ : ∃ n, Hid (seq + k = n) := ⟨_, rfl⟩
      have hwr1 : IntKind.i64.wrap ((seq : Int) + (k : Int)) = (n : Int) := by have := H2.out; have := HNK.out; rw [IntKind.wrap_i64]; omega
      have hsz1 : (layB seq ((ps.take k).map Part.bs)).length + (20 + pb.length) ≤ 30000000 := by
        rw [layB_length]
        simpa [sizeL] using HSUM
      have HSZ1 := Lib.hid hsz1
      have HKT : ((ps.take k).map Part.bs).length = k := by simp; omega
      have HKT := Lib.hid HKT
      by_cases hp : pb.length ≤ 262144
      · have Y := Lib.hid (fput_ok n pA pc pb wr (by have := H1.out; have := HNK.out; omega) (by have := H2.out; have := HNK.out; omega) hgi hp)
        have HP := Lib.hid hp
        have HALL := Lib.hid hall
        have GI := Lib.hid hgi
        clear hall hp HSUM htk hsz1 hgi hok
        go_wp2_with fail
        refine Y.out.mono ?_
        rintro e w' ⟨v, rfl, own, hb⟩
        obtain ⟨YA, YC, rfl, hin⟩ := own_in own (frameB_bytes n pb GI.out.bytes)
        have HIN := Lib.hid hin
        have HB := Lib.hid (hinv.out.1.trans (hb.mono hinv.out.1.size))
        have HOW := Lib.hid (own_below hinv.out.2.2 hb)
        have hfl : (frameB n pb).length = 20 + pb.length := frameB_length n pb
        have HFL := Lib.hid hfl
        generalize hFB : frameB n pb = FB at HIN HFL ⊢
        have HFB := Lib.hid hFB
        clear own hin hb hfl hFB
        go_wp2_with (at_builtin; refine wpList_append_bytes (by rfl) _ _ (by rfl) w.heap.size u6 (layB seq ((ps.take k).map Part.bs)) (by rfl) HOW.out YA YC FB (by rfl) HIN.out (by have := HSZ1.out; have := HFL.out; omega) HB.out.size ?_; intro v' w4 own4 hb4)
        go_roundw
        case rel =>
          refine ⟨k + 1, by omega, by go_num, HB.out.trans hb4, ?_, ?_⟩
          · intro q hq
            rw [HTK.out] at hq
            rcases List.mem_append.1 hq with hq | hq
            · exact HALL.out q hq
            · simp only [List.mem_singleton] at hq; subst hq; exact HP.out
          · rw [HTK.out, List.map_append, List.map_cons, List.map_nil, layB_snoc, HKT.out, HNK.out, HFB.out]
            exact own4
        case measure => simp [intOf]; omega
      · have Y := Lib.hid (fput_many (n : Nat) pA pc pb.length wr (by have := H1.out; have := HNK.out; omega) (by have := H2.out; have := HNK.out; omega) (by omega))
        have HP := Lib.hid hp
        clear hall hp HSUM htk hsz1 hgi hok
        go_wp2_with fail
        refine Y.out.mono ?_
        rintro e w' ⟨rfl, hb⟩
        have HB := Lib.hid (hinv.out.1.trans (hb.mono hinv.out.1.size))
        clear hb
        go_wp2_with fail
        exact bodyPost_ret (v := .tuple #[.slice none 0 0, .bool false]) (by simp [results, Try.results27, go_sem]) rfl ⟨HB.out, Or.inl ⟨fun h => HP.out (h _ hmem), rfl⟩⟩
    · obtain rfl : k = ps.length := by omega
      have hi := hinv.out
      unfold LayInv at hi
      rw [List.take_length] at hi
      have HI := Lib.hid hi
      clear hinv hi
      go_wp2_with fail
      exact bodyPost_ret (v := .tuple #[u6, .bool true]) (by simp [results, Try.results27, go_sem]) rfl ⟨HI.out.1, Or.inr ⟨HI.out.2.1, u6, rfl, HI.out.2.2⟩⟩
/-- 'lay', by its two ways -/
theorem lay_ok (A : Option Addr) (cap : Nat) (ps : List Part) (seq : Nat) (w : World) (hA : PartsAt w A ps) (hps : ∀ p ∈ ps, PartOk w p) (hsz : sizeL (ps.map Part.bs) ≤ 30000000) (h1 : 1 ≤ seq) (h2 : seq ≤ 4294967296) (hb : ∀ p ∈ ps, p.bs.length ≤ 262144) :
    Calls Try.prog 27 #[.slice A ps.length cap, .int .i64 (seq : Nat)] w fun e w' => ∃ (B : Option Addr) (k : Nat), e = .returned (.tuple #[.slice B (layB seq (ps.map Part.bs)).length k, .bool true]) ∧ Below w.heap.size w w' ∧ w'.ownsRow w.heap.size 5 1 (.slice B (layB seq (ps.map Part.bs)).length k) (layB seq (ps.map Part.bs)).length (cellsOf (layB seq (ps.map Part.bs))) ∧ BytesIn w' B k (layB seq (ps.map Part.bs)) := by
  refine (lay_any A cap ps seq w hA hps hsz h1 h2).mono ?_
  rintro e w' ⟨hbl, ⟨h, _⟩ | ⟨_, v, rfl, ho⟩⟩
  · exact absurd hb h
  · obtain ⟨B, k, rfl, hin⟩ := own_in ho (layB_bytes _ _ (by intro d hd; obtain ⟨p, hp, rfl⟩ := List.mem_map.1 hd; exact (hps p hp).bytes))
    exact ⟨B, k, rfl, hbl, ho, hin⟩
theorem lay_bad (A : Option Addr) (cap : Nat) (ps : List Part) (seq : Nat) (w : World) (hA : PartsAt w A ps) (hps : ∀ p ∈ ps, PartOk w p) (hsz : sizeL (ps.map Part.bs) ≤ 30000000) (h1 : 1 ≤ seq) (h2 : seq ≤ 4294967296) (hb : ¬ (∀ p ∈ ps, p.bs.length ≤ 262144)) :
    Calls Try.prog 27 #[.slice A ps.length cap, .int .i64 (seq : Nat)] w fun e w' => e = .returned (.tuple #[.slice none 0 0, .bool false]) ∧ Below w.heap.size w w' := by
  refine (lay_any A cap ps seq w hA hps hsz h1 h2).mono ?_
  rintro e w' ⟨hbl, ⟨_, rfl⟩ | ⟨h, _⟩⟩
  · exact ⟨rfl, hbl⟩
  · exact absurd h hb
end Go.Proofs.Ythmmhbeafbdglaa
