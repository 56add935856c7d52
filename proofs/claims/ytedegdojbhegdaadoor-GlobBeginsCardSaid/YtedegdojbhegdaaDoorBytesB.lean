/- Contract of slices.Clone at bytes: a row of the call's own with the same bytes. At most 2^47 bytes. -/
import Derived.Test.YtedegdojbhegdaaDoorOwn
namespace Go.Proofs.YtedegdojbhegdaaDoor
open Go.RowKit Go.Sort

/-- The call hands back a slice of its own with the bytes l; nothing that was there has turned. -/
def Fresh (w : World) (l : List UInt8) (e : Ending) (w' : World) : Prop := ∃ v', e = .returned v' ∧ Own w' w.heap.size v' l ∧ Below w.heap.size w w'

theorem below_of_grown_nil {w w' : World} (h : w.grownBy w' none) : Below w.heap.size w w' := ⟨h.os, h.tape, h.output, h.size, fun k hk => h.block k hk (by simp)⟩
theorem below_of_grown {B : Nat} {a w w' : World} {v : Value} (hb : Below B a w) (hB : B ≤ w.heap.size) (h : w.grownBy w' v.ownBlock) (hv : ∀ k, v.ownBlock = some k → B ≤ k) : Below B a w' :=
  hb.grown h hB hv

end Go.Proofs.YtedegdojbhegdaaDoor
