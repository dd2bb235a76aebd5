import Derived.Test.YthmmhbeafbdglaaFrRef
import Derived.Deep.AppendLies
namespace Go.Proofs.Ythmmhbeafbdglaa
open Go.RowKit
theorem own_of_block {w : World} {g base : Nat} {L : List Nat} (h : w.heap[g]? = some (.cells (cellsOf L).toArray 5 (0, 0))) (hb : base ≤ g) (hC : L.length ≤ maxLen) :
    w.ownsRow base 5 1 (.slice (some ⟨g, 0, none⟩) L.length L.length) L.length (cellsOf L) := by
  have := own_row h hb rfl hC (Nat.le_refl _)
  rwa [List.take_length] at this
theorem own_below {w w' : World} {base : Nat} {e : TypeId} {size n : Nat} {v : Value} {xs : List Value} (h : w.ownsRow base e size v n xs) (hb : Below w.heap.size w w') : w'.ownsRow base e size v n xs := by
  refine ⟨h.1, ?_⟩
  rcases h.2 with h2 | ⟨b, cap, cur, hv, hg, hh, r⟩
  · exact Or.inl h2
  · exact Or.inr ⟨b, cap, cur, hv, hg, (hb.block b (block_lt hh)).trans hh, r⟩
theorem own_block_le {w : World} {base : Nat} {e : TypeId} {size n : Nat} {v : Value} {xs : List Value} (h : w.ownsRow base e size v n xs) : ∀ k, v.ownBlock = some k → base ≤ k := by
  intro k hk
  rcases h.2 with ⟨rfl, _⟩ | ⟨b, cap, cur, rfl, hg, _⟩
  · cases hk
  · have : b = k := by simpa [Value.ownBlock] using hk
    omega
/-- bytes appended to a row of the call's own, whatever they are -/
theorem wp_append_bytes {w : World} {o : Oper} {a : Act} {K : Act → World → Prop} {Q : Exit → Act → World → Prop} (s x : Operand) (ho : o.op = .call { callee := .builtin .append, args := #[s, x], argTypes := #[28, 28] })
    (base : Nat) (v : Value) (L : List Nat) (hs : a.eval s = v) (hown : w.ownsRow base 5 1 v L.length (cellsOf L)) (A : Option Addr) (cap : Nat) (d : List Nat) (hx : a.eval x = .slice A d.length cap) (g : BytesIn w A cap d)
    (hb : L.length + d.length ≤ 140737488355328) (hbase : base ≤ w.heap.size)
    (h : ∀ v' w', w'.ownsRow base 5 1 v' (L ++ d).length (cellsOf (L ++ d)) → Below base w w' → K (a.put o.dst v') w') : o.wp Try.prog a w K Q := by
  obtain ⟨i0, hi, hz0, hz1, hz2⟩ := info_parts infoU8
  cases A with
  | none =>
    have h0 := g.nil_ rfl
    subst h0
    have hd : d = [] := List.eq_nil_of_length_eq_zero (by have := g.cap; omega)
    subst hd
    have hrun := run_append_owned_none (P := Try.prog) (w := w) base 28 o.type 5 i0 1 Try.underlying28 hi v L.length (cellsOf L) hown
    unfold Oper.wp execOp
    have hx' : a.eval x = .slice none 0 0 := hx
    simp only [ho, resolve, invoke, builtin, Sem.run_bind, Sem.run_pure, Result.andThen_ok, List.map_toArray, List.map_cons, List.map_nil, hs, hx', hrun]
    exact h v w (by simpa using hown) (Below.refl _ _)
  | some ad =>
    refine wp_append_own w s x 28 ho base 5 i0 (.int .u8 0) 1 1 Try.underlying28 hi hz0 hz1 hz2 rfl (by decide) v L.length (cellsOf L) hs hown ad d.length cap (cellsOf d) hx (by rw [cellsOf_length]; omega) (news_any g.at_ ad rfl) (cellsOf_one d) (by unfold maxLen; omega) (by omega) hbase ?_
    intro v' w' h1 h2 _
    refine h v' w' ?_ ((Below.refl _ _).grown h2 hbase (own_block_le hown))
    rw [List.length_append, ← cellsOf_append]
    exact h1
theorem wpList_append_bytes {w : World} {ops : Array Oper} {rest : List Oper} {o : Oper} {a : Act} {Q : Exit → Act → World → Prop} (hgd : o.guard = none) (s x : Operand) (ho : o.op = .call { callee := .builtin .append, args := #[s, x], argTypes := #[28, 28] })
    (base : Nat) (v : Value) (L : List Nat) (hs : a.eval s = v) (hown : w.ownsRow base 5 1 v L.length (cellsOf L)) (A : Option Addr) (cap : Nat) (d : List Nat) (hx : a.eval x = .slice A d.length cap) (g : BytesIn w A cap d)
    (hb : L.length + d.length ≤ 140737488355328) (hbase : base ≤ w.heap.size)
    (h : ∀ v' w', w'.ownsRow base 5 1 v' (L ++ d).length (cellsOf (L ++ d)) → Below base w w' → wpList Try.prog ops Q rest (a.put o.dst v') w') : wpList Try.prog ops Q (o :: rest) a w :=
  wpList_plain hgd fun _ hK => wp_append_bytes s x ho base v L hs hown A cap d hx g hb hbase fun v' w' h1 h2 => hK _ _ (h v' w' h1 h2)
theorem step_append_bytes {w : World} {ops : Array Oper} {o : Oper} {a : Act} {K : Act → World → Prop} {Q : Exit → Act → World → Prop} {E : Prop} (hgd : o.guard = none) (s x : Operand) (ho : o.op = .call { callee := .builtin .append, args := #[s, x], argTypes := #[28, 28] })
    (base : Nat) (v : Value) (L : List Nat) (hs : a.eval s = v) (hown : w.ownsRow base 5 1 v L.length (cellsOf L)) (A : Option Addr) (cap : Nat) (d : List Nat) (hx : a.eval x = .slice A d.length cap) (g : BytesIn w A cap d)
    (hb : L.length + d.length ≤ 140737488355328) (hbase : base ≤ w.heap.size)
    (h : ∀ v' w', w'.ownsRow base 5 1 v' (L ++ d).length (cellsOf (L ++ d)) → Below base w w' → K (a.put o.dst v') w') : if Region.wanted o (yielded ops a.tmps) = true then Oper.wp Try.prog o a w K Q else E := by
  rw [if_pos (by simp [Region.wanted, hgd])]
  exact wp_append_bytes s x ho base v L hs hown A cap d hx g hb hbase h
end Go.Proofs.Ythmmhbeafbdglaa
