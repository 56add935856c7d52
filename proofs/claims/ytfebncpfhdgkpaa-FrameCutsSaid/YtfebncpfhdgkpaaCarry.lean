/- Small laws that carry facts over a step of a walk. No program is named here, and nothing is assumed. -/
import Derived.Test.YtfebncpfhdgkpaaWords
namespace Go.Proofs.Ytfebncpfhdgkpaa
open Go.RowKit Go.Sort

theorem le_alloc (w : World) (o : Obj) : w.heap.size ≤ (w.alloc o).heap.size := by simp
theorem lt_alloc (w : World) (o : Obj) : w.heap.size < (w.alloc o).heap.size := by simp
theorem calls_keep {P : Program} {f : FuncId} {args : Array Value} {w : World} {v : Value} (h : Calls P f args w fun e w' => e = .returned v ∧ w = w') : Calls P f args w fun e w' => e = .returned v ∧ Below w.heap.size w w' :=
  h.mono fun _ _ ⟨h, e⟩ => ⟨h, e ▸ Below.refl _ _⟩
theorem calls_val {P : Program} {f : FuncId} {args : Array Value} {w : World} {u v : Value} (e : u = v) (h : Calls P f args w fun e w' => e = .returned u ∧ Below w.heap.size w w') : Calls P f args w fun e w' => e = .returned v ∧ Below w.heap.size w w' := e ▸ h
end Go.Proofs.Ytfebncpfhdgkpaa
