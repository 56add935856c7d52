/- The walk of the law NumsAdds: it returns true, and nothing that was there ahead of the call has turned. No condition. -/
import Derived.Test.YtnaaknkknhediaaNumsC
namespace Go.Proofs.Ytnaaknkknhediaa
open Go.RowKit

theorem add50_comm (a b : Int) : add50 a b = add50 b a := by unfold add50; rw [Int.add_comm]

set_option maxHeartbeats 1000000 in
theorem nums_adds_walk (w : World) (a : Int) (_ : (Lit.int .i64 a).wf = true) (b : Int) (_ : (Lit.int .i64 b).wf = true) :
    Calls Try.prog 3 #[.int .i64 a, .int .i64 b] w fun e w' => e = .returned (.bool true) ∧ Below w.heap.size w w' := by
  go_enter Try.func3, Try.ntmps3
  go_wp2_with (first
    | (go_at_call 15; refine (nums_Add _ _ _).mono ?_; rintro e w' ⟨rfl, rfl⟩; try rw [add50_comm b a])
    | (go_at_call 16; refine (ref02_Cut _ _).mono ?_; rintro e w' ⟨rfl, rfl⟩; rw [show cut50 _ = add50 a b from by unfold add50 cut50; omega])
    | (go_at_call 17; refine (alive02 _).mono ?_; rintro e w' ⟨rfl, hb⟩))
  all_goals
    go_ret
    exact ⟨rfl, hb⟩
end Go.Proofs.Ytnaaknkknhediaa
