/- The chapter's example on configurations: it holds, whatever lies in memory. -/
import Derived.Test.YtfebncpfhdgkpaaWords
import Derived.Deep.RegionHeld3
namespace Go.Proofs.Ytfebncpfhdgkpaa
open Go.RowKit Go.Sort
attribute [local go_sem] World.cell?_alloc_some
set_option maxRecDepth 100000 in
set_option maxHeartbeats 4000000 in
theorem alive21 (w : World) : Calls Try.prog 26 #[] w fun x w' => x = .returned (.bool true) ∧ Below w.heap.size w w' := by
  go_enter Try.func26, Try.ntmps26
  go_wp2
  go_ret
  exact ⟨rfl, by go_grown⟩
end Go.Proofs.Ytfebncpfhdgkpaa
