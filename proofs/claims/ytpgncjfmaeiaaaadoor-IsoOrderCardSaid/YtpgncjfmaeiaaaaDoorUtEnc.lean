/- Walks: signs' bytes, the program's and the document's. Conditions: the numbers lie as a row of int; no more than 2^44 of them. -/
import Derived.Test.YtpgncjfmaeiaaaaDoorUtWalk
set_option linter.unusedVariables false
namespace Go.Proofs.YtpgncjfmaeiaaaaDoor
open Go.RowKit
/-- numbers that lie in a row -/
structure IntsIn (w : World) (A : Option Addr) (c : Nat) (zs : List Int) : Prop where
  at_ : ∀ i, i < zs.length → ∃ b off, A = some ⟨b, off, none⟩ ∧ b < w.heap.size ∧ w.cell? ⟨b, off + i, none⟩ = some (.int .i64 (zs.getD i 0))
  rng : ∀ i, i < zs.length → -9223372036854775808 ≤ zs.getD i 0 ∧ zs.getD i 0 ≤ 9223372036854775807
  cap : zs.length ≤ c
  len : zs.length ≤ 17592186044416
theorem IntsIn.below {w w' : World} {A : Option Addr} {c : Nat} {zs : List Int} (g : IntsIn w A c zs) (hb : Below w.heap.size w w') : IntsIn w' A c zs :=
  ⟨fun i hi => by
    obtain ⟨b, off, h1, h2, h3⟩ := g.at_ i hi
    exact ⟨b, off, h1, Nat.lt_of_lt_of_le h2 hb.size, (hb.cell (p := ⟨b, off + i, none⟩) h2).trans h3⟩, g.rng, g.cap, g.len⟩
end Go.Proofs.YtpgncjfmaeiaaaaDoor
