/- How the heap comes to a pile's methods. Conditions: none. -/
import Derived.Test.YtiaonfmdjipekaaLsSwap
import Derived.KernelRfl
namespace Go.Proofs.Ytiaonfmdjipekaa.Ls
open Go.RowKit
theorem meth_val {P : Program} (k : Nat) (t e : TypeId) (name : String) (i : TypeInfo) (f : FuncId) (a : Addr) (w : World) (v : Value) (hi : P.info? t = some i)
    (hm : (i.methods.find? (·.name == name)).map (fun m => (m.path, m.func)) = some (#[], some (f, false))) (hu : P.underlying t = some (.pointer e)) (hg : (isAgg e).run P w = .ok false w) (h : w.cell? a = some v) :
    (method (k + 1) t (.pointer (some a)) name).run P w = .ok (f, v) w := by
  cases hf : i.methods.find? (·.name == name) with
  | none => rw [hf] at hm; simp at hm
  | some m =>
    rw [hf] at hm
    simp only [Option.map_some, Option.some.injEq, Prod.mk.injEq] at hm
    obtain ⟨h1, h2⟩ := hm
    unfold method
    simp only [Sem.run_bind]
    have ht : (typeInfo t).run P w = .ok i w := by simp [go_sem, typeInfo, hi]
    rw [ht]
    simp only [Result.andThen_ok, hf, h1, h2]
    have hw : ∀ (ts : Array TypeId) (u : TypeId) (n : String) (W : World), (Builtin.ssaWrapNilChk_ ts u #[.pointer (some a), strVal "", strVal n]).run P W = .ok (.pointer (some a)) W := fun _ _ _ _ => rfl
    simp [follow, receiverAt, go_sem, Place.get, hw, loadVar, asAddr, hg, h, run_underlying hu]
    done
theorem meth_len (a : Addr) (w : World) (v : Value) (h : w.cell? a = some v) : (method 231 66 (.pointer (some a)) "Len").run Try.prog w = .ok (81, v) w := by
  have hh : (Try.prog.info? 66).map (fun i => (i.methods.find? (·.name == "Len")).map (fun m => (m.path, m.func))) = some (some (#[], some (81, false))) := by kernel_rfl
  cases hi : Try.prog.info? 66 with
  | none => rw [hi] at hh; simp at hh
  | some i =>
    rw [hi] at hh
    simp only [Option.map_some, Option.some.injEq] at hh
    exact meth_val 230 66 56 "Len" i _ a w v hi hh Try.underlying66 (by kernel_rfl) h
theorem meth_less (a : Addr) (w : World) (v : Value) (h : w.cell? a = some v) : (method 231 66 (.pointer (some a)) "Less").run Try.prog w = .ok (82, v) w := by
  have hh : (Try.prog.info? 66).map (fun i => (i.methods.find? (·.name == "Less")).map (fun m => (m.path, m.func))) = some (some (#[], some (82, false))) := by kernel_rfl
  cases hi : Try.prog.info? 66 with
  | none => rw [hi] at hh; simp at hh
  | some i =>
    rw [hi] at hh
    simp only [Option.map_some, Option.some.injEq] at hh
    exact meth_val 230 66 56 "Less" i _ a w v hi hh Try.underlying66 (by kernel_rfl) h
theorem meth_swap (a : Addr) (w : World) (v : Value) (h : w.cell? a = some v) : (method 231 66 (.pointer (some a)) "Swap").run Try.prog w = .ok (83, v) w := by
  have hh : (Try.prog.info? 66).map (fun i => (i.methods.find? (·.name == "Swap")).map (fun m => (m.path, m.func))) = some (some (#[], some (83, false))) := by kernel_rfl
  cases hi : Try.prog.info? 66 with
  | none => rw [hi] at hh; simp at hh
  | some i =>
    rw [hi] at hh
    simp only [Option.map_some, Option.some.injEq] at hh
    exact meth_val 230 66 56 "Swap" i _ a w v hi hh Try.underlying66 (by kernel_rfl) h
theorem meth_push (a : Addr) (w : World) : (method 231 66 (.pointer (some a)) "Push").run Try.prog w = .ok (85, .pointer (some a)) w := by kernel_rfl
theorem meth_pop (a : Addr) (w : World) : (method 231 66 (.pointer (some a)) "Pop").run Try.prog w = .ok (84, .pointer (some a)) w := by kernel_rfl
end Go.Proofs.Ytiaonfmdjipekaa.Ls
