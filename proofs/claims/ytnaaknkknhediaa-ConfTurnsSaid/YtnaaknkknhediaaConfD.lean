/- Contracts of Conf.Exclude and Conf.Include, a place at a time. No condition but the case's own. -/
import Derived.Test.YtnaaknkknhediaaConfB
namespace Go.Proofs.Ytnaaknkknhediaa
open Go.RowKit Go.Sort

set_option maxRecDepth 100000 in
set_option maxHeartbeats 4000000 in
theorem exclude_yes0 (e : Int) (o1 o2 o3 o4 : Bool) (j0 j1 j2 j3 j4 : Int) (w : World) (he0 : -9223372036854775808 ≤ e) (he : e < 1099511627776) : Calls Try.prog 26 #[.agg #[.int .i64 (e), .bool false, .bool o1, .bool o2, .bool o3, .bool o4, .int .i64 j0, .int .i64 j1, .int .i64 j2, .int .i64 j3, .int .i64 j4], .int .i64 0] w fun x w' => x = .returned (.tuple #[.agg #[.int .i64 (e + 1), .bool true, .bool o1, .bool o2, .bool o3, .bool o4, .int .i64 j0, .int .i64 j1, .int .i64 j2, .int .i64 j3, .int .i64 j4], .bool true]) ∧ Below w.heap.size w w' := by
  go_enter Try.func26, Try.ntmps26
  go_wp2
  all_goals
    go_returns
    exact ⟨rfl, by go_grown⟩

set_option maxRecDepth 100000 in
set_option maxHeartbeats 4000000 in
theorem exclude_full0 (e : Int) (o1 o2 o3 o4 : Bool) (j0 j1 j2 j3 j4 : Int) (w : World) (he : 1099511627776 ≤ e) : Calls Try.prog 26 #[.agg #[.int .i64 (e), .bool false, .bool o1, .bool o2, .bool o3, .bool o4, .int .i64 j0, .int .i64 j1, .int .i64 j2, .int .i64 j3, .int .i64 j4], .int .i64 0] w fun x w' => x = .returned (.tuple #[.agg #[.int .i64 (e), .bool false, .bool o1, .bool o2, .bool o3, .bool o4, .int .i64 j0, .int .i64 j1, .int .i64 j2, .int .i64 j3, .int .i64 j4], .bool false]) ∧ Below w.heap.size w w' := by
  go_enter Try.func26, Try.ntmps26
  go_wp2
  all_goals
    go_returns
    exact ⟨rfl, by go_grown⟩

set_option maxRecDepth 100000 in
set_option maxHeartbeats 4000000 in
theorem exclude_out0 (e : Int) (o1 o2 o3 o4 : Bool) (j0 j1 j2 j3 j4 : Int) (w : World)  : Calls Try.prog 26 #[.agg #[.int .i64 (e), .bool true, .bool o1, .bool o2, .bool o3, .bool o4, .int .i64 j0, .int .i64 j1, .int .i64 j2, .int .i64 j3, .int .i64 j4], .int .i64 0] w fun x w' => x = .returned (.tuple #[.agg #[.int .i64 (e), .bool true, .bool o1, .bool o2, .bool o3, .bool o4, .int .i64 j0, .int .i64 j1, .int .i64 j2, .int .i64 j3, .int .i64 j4], .bool false]) ∧ Below w.heap.size w w' := by
  go_enter Try.func26, Try.ntmps26
  go_wp2
  all_goals
    go_returns
    exact ⟨rfl, by go_grown⟩

set_option maxRecDepth 100000 in
set_option maxHeartbeats 4000000 in
theorem include_yes0 (e : Int) (o1 o2 o3 o4 : Bool) (j0 j1 j2 j3 j4 : Int) (w : World) (he0 : -9223372036854775808 ≤ e) (he : e < 1099511627776) : Calls Try.prog 27 #[.agg #[.int .i64 (e), .bool true, .bool o1, .bool o2, .bool o3, .bool o4, .int .i64 j0, .int .i64 j1, .int .i64 j2, .int .i64 j3, .int .i64 j4], .int .i64 0] w fun x w' => x = .returned (.tuple #[.agg #[.int .i64 (e + 1), .bool false, .bool o1, .bool o2, .bool o3, .bool o4, .int .i64 (e + 1), .int .i64 j1, .int .i64 j2, .int .i64 j3, .int .i64 j4], .bool true]) ∧ Below w.heap.size w w' := by
  go_enter Try.func27, Try.ntmps27
  go_wp2
  all_goals
    go_returns
    exact ⟨rfl, by go_grown⟩

set_option maxRecDepth 100000 in
set_option maxHeartbeats 4000000 in
theorem include_full0 (e : Int) (o1 o2 o3 o4 : Bool) (j0 j1 j2 j3 j4 : Int) (w : World) (he : 1099511627776 ≤ e) : Calls Try.prog 27 #[.agg #[.int .i64 (e), .bool true, .bool o1, .bool o2, .bool o3, .bool o4, .int .i64 j0, .int .i64 j1, .int .i64 j2, .int .i64 j3, .int .i64 j4], .int .i64 0] w fun x w' => x = .returned (.tuple #[.agg #[.int .i64 (e), .bool true, .bool o1, .bool o2, .bool o3, .bool o4, .int .i64 j0, .int .i64 j1, .int .i64 j2, .int .i64 j3, .int .i64 j4], .bool false]) ∧ Below w.heap.size w w' := by
  go_enter Try.func27, Try.ntmps27
  go_wp2
  all_goals
    go_returns
    exact ⟨rfl, by go_grown⟩

set_option maxRecDepth 100000 in
set_option maxHeartbeats 4000000 in
theorem include_in0 (e : Int) (o1 o2 o3 o4 : Bool) (j0 j1 j2 j3 j4 : Int) (w : World)  : Calls Try.prog 27 #[.agg #[.int .i64 (e), .bool false, .bool o1, .bool o2, .bool o3, .bool o4, .int .i64 j0, .int .i64 j1, .int .i64 j2, .int .i64 j3, .int .i64 j4], .int .i64 0] w fun x w' => x = .returned (.tuple #[.agg #[.int .i64 (e), .bool false, .bool o1, .bool o2, .bool o3, .bool o4, .int .i64 j0, .int .i64 j1, .int .i64 j2, .int .i64 j3, .int .i64 j4], .bool false]) ∧ Below w.heap.size w w' := by
  go_enter Try.func27, Try.ntmps27
  go_wp2
  all_goals
    go_returns
    exact ⟨rfl, by go_grown⟩

set_option maxRecDepth 100000 in
set_option maxHeartbeats 4000000 in
theorem exclude_yes1 (e : Int) (o0 o2 o3 o4 : Bool) (j0 j1 j2 j3 j4 : Int) (w : World) (he0 : -9223372036854775808 ≤ e) (he : e < 1099511627776) : Calls Try.prog 26 #[.agg #[.int .i64 (e), .bool o0, .bool false, .bool o2, .bool o3, .bool o4, .int .i64 j0, .int .i64 j1, .int .i64 j2, .int .i64 j3, .int .i64 j4], .int .i64 1] w fun x w' => x = .returned (.tuple #[.agg #[.int .i64 (e + 1), .bool o0, .bool true, .bool o2, .bool o3, .bool o4, .int .i64 j0, .int .i64 j1, .int .i64 j2, .int .i64 j3, .int .i64 j4], .bool true]) ∧ Below w.heap.size w w' := by
  go_enter Try.func26, Try.ntmps26
  go_wp2
  all_goals
    go_returns
    exact ⟨rfl, by go_grown⟩

set_option maxRecDepth 100000 in
set_option maxHeartbeats 4000000 in
theorem exclude_full1 (e : Int) (o0 o2 o3 o4 : Bool) (j0 j1 j2 j3 j4 : Int) (w : World) (he : 1099511627776 ≤ e) : Calls Try.prog 26 #[.agg #[.int .i64 (e), .bool o0, .bool false, .bool o2, .bool o3, .bool o4, .int .i64 j0, .int .i64 j1, .int .i64 j2, .int .i64 j3, .int .i64 j4], .int .i64 1] w fun x w' => x = .returned (.tuple #[.agg #[.int .i64 (e), .bool o0, .bool false, .bool o2, .bool o3, .bool o4, .int .i64 j0, .int .i64 j1, .int .i64 j2, .int .i64 j3, .int .i64 j4], .bool false]) ∧ Below w.heap.size w w' := by
  go_enter Try.func26, Try.ntmps26
  go_wp2
  all_goals
    go_returns
    exact ⟨rfl, by go_grown⟩

set_option maxRecDepth 100000 in
set_option maxHeartbeats 4000000 in
theorem exclude_out1 (e : Int) (o0 o2 o3 o4 : Bool) (j0 j1 j2 j3 j4 : Int) (w : World)  : Calls Try.prog 26 #[.agg #[.int .i64 (e), .bool o0, .bool true, .bool o2, .bool o3, .bool o4, .int .i64 j0, .int .i64 j1, .int .i64 j2, .int .i64 j3, .int .i64 j4], .int .i64 1] w fun x w' => x = .returned (.tuple #[.agg #[.int .i64 (e), .bool o0, .bool true, .bool o2, .bool o3, .bool o4, .int .i64 j0, .int .i64 j1, .int .i64 j2, .int .i64 j3, .int .i64 j4], .bool false]) ∧ Below w.heap.size w w' := by
  go_enter Try.func26, Try.ntmps26
  go_wp2
  all_goals
    go_returns
    exact ⟨rfl, by go_grown⟩

set_option maxRecDepth 100000 in
set_option maxHeartbeats 4000000 in
theorem include_yes1 (e : Int) (o0 o2 o3 o4 : Bool) (j0 j1 j2 j3 j4 : Int) (w : World) (he0 : -9223372036854775808 ≤ e) (he : e < 1099511627776) : Calls Try.prog 27 #[.agg #[.int .i64 (e), .bool o0, .bool true, .bool o2, .bool o3, .bool o4, .int .i64 j0, .int .i64 j1, .int .i64 j2, .int .i64 j3, .int .i64 j4], .int .i64 1] w fun x w' => x = .returned (.tuple #[.agg #[.int .i64 (e + 1), .bool o0, .bool false, .bool o2, .bool o3, .bool o4, .int .i64 j0, .int .i64 (e + 1), .int .i64 j2, .int .i64 j3, .int .i64 j4], .bool true]) ∧ Below w.heap.size w w' := by
  go_enter Try.func27, Try.ntmps27
  go_wp2
  all_goals
    go_returns
    exact ⟨rfl, by go_grown⟩

set_option maxRecDepth 100000 in
set_option maxHeartbeats 4000000 in
theorem include_full1 (e : Int) (o0 o2 o3 o4 : Bool) (j0 j1 j2 j3 j4 : Int) (w : World) (he : 1099511627776 ≤ e) : Calls Try.prog 27 #[.agg #[.int .i64 (e), .bool o0, .bool true, .bool o2, .bool o3, .bool o4, .int .i64 j0, .int .i64 j1, .int .i64 j2, .int .i64 j3, .int .i64 j4], .int .i64 1] w fun x w' => x = .returned (.tuple #[.agg #[.int .i64 (e), .bool o0, .bool true, .bool o2, .bool o3, .bool o4, .int .i64 j0, .int .i64 j1, .int .i64 j2, .int .i64 j3, .int .i64 j4], .bool false]) ∧ Below w.heap.size w w' := by
  go_enter Try.func27, Try.ntmps27
  go_wp2
  all_goals
    go_returns
    exact ⟨rfl, by go_grown⟩

set_option maxRecDepth 100000 in
set_option maxHeartbeats 4000000 in
theorem include_in1 (e : Int) (o0 o2 o3 o4 : Bool) (j0 j1 j2 j3 j4 : Int) (w : World)  : Calls Try.prog 27 #[.agg #[.int .i64 (e), .bool o0, .bool false, .bool o2, .bool o3, .bool o4, .int .i64 j0, .int .i64 j1, .int .i64 j2, .int .i64 j3, .int .i64 j4], .int .i64 1] w fun x w' => x = .returned (.tuple #[.agg #[.int .i64 (e), .bool o0, .bool false, .bool o2, .bool o3, .bool o4, .int .i64 j0, .int .i64 j1, .int .i64 j2, .int .i64 j3, .int .i64 j4], .bool false]) ∧ Below w.heap.size w w' := by
  go_enter Try.func27, Try.ntmps27
  go_wp2
  all_goals
    go_returns
    exact ⟨rfl, by go_grown⟩

set_option maxRecDepth 100000 in
set_option maxHeartbeats 4000000 in
theorem exclude_yes2 (e : Int) (o0 o1 o3 o4 : Bool) (j0 j1 j2 j3 j4 : Int) (w : World) (he0 : -9223372036854775808 ≤ e) (he : e < 1099511627776) : Calls Try.prog 26 #[.agg #[.int .i64 (e), .bool o0, .bool o1, .bool false, .bool o3, .bool o4, .int .i64 j0, .int .i64 j1, .int .i64 j2, .int .i64 j3, .int .i64 j4], .int .i64 2] w fun x w' => x = .returned (.tuple #[.agg #[.int .i64 (e + 1), .bool o0, .bool o1, .bool true, .bool o3, .bool o4, .int .i64 j0, .int .i64 j1, .int .i64 j2, .int .i64 j3, .int .i64 j4], .bool true]) ∧ Below w.heap.size w w' := by
  go_enter Try.func26, Try.ntmps26
  go_wp2
  all_goals
    go_returns
    exact ⟨rfl, by go_grown⟩

set_option maxRecDepth 100000 in
set_option maxHeartbeats 4000000 in
theorem exclude_full2 (e : Int) (o0 o1 o3 o4 : Bool) (j0 j1 j2 j3 j4 : Int) (w : World) (he : 1099511627776 ≤ e) : Calls Try.prog 26 #[.agg #[.int .i64 (e), .bool o0, .bool o1, .bool false, .bool o3, .bool o4, .int .i64 j0, .int .i64 j1, .int .i64 j2, .int .i64 j3, .int .i64 j4], .int .i64 2] w fun x w' => x = .returned (.tuple #[.agg #[.int .i64 (e), .bool o0, .bool o1, .bool false, .bool o3, .bool o4, .int .i64 j0, .int .i64 j1, .int .i64 j2, .int .i64 j3, .int .i64 j4], .bool false]) ∧ Below w.heap.size w w' := by
  go_enter Try.func26, Try.ntmps26
  go_wp2
  all_goals
    go_returns
    exact ⟨rfl, by go_grown⟩

set_option maxRecDepth 100000 in
set_option maxHeartbeats 4000000 in
theorem exclude_out2 (e : Int) (o0 o1 o3 o4 : Bool) (j0 j1 j2 j3 j4 : Int) (w : World)  : Calls Try.prog 26 #[.agg #[.int .i64 (e), .bool o0, .bool o1, .bool true, .bool o3, .bool o4, .int .i64 j0, .int .i64 j1, .int .i64 j2, .int .i64 j3, .int .i64 j4], .int .i64 2] w fun x w' => x = .returned (.tuple #[.agg #[.int .i64 (e), .bool o0, .bool o1, .bool true, .bool o3, .bool o4, .int .i64 j0, .int .i64 j1, .int .i64 j2, .int .i64 j3, .int .i64 j4], .bool false]) ∧ Below w.heap.size w w' := by
  go_enter Try.func26, Try.ntmps26
  go_wp2
  all_goals
    go_returns
    exact ⟨rfl, by go_grown⟩

set_option maxRecDepth 100000 in
set_option maxHeartbeats 4000000 in
theorem include_yes2 (e : Int) (o0 o1 o3 o4 : Bool) (j0 j1 j2 j3 j4 : Int) (w : World) (he0 : -9223372036854775808 ≤ e) (he : e < 1099511627776) : Calls Try.prog 27 #[.agg #[.int .i64 (e), .bool o0, .bool o1, .bool true, .bool o3, .bool o4, .int .i64 j0, .int .i64 j1, .int .i64 j2, .int .i64 j3, .int .i64 j4], .int .i64 2] w fun x w' => x = .returned (.tuple #[.agg #[.int .i64 (e + 1), .bool o0, .bool o1, .bool false, .bool o3, .bool o4, .int .i64 j0, .int .i64 j1, .int .i64 (e + 1), .int .i64 j3, .int .i64 j4], .bool true]) ∧ Below w.heap.size w w' := by
  go_enter Try.func27, Try.ntmps27
  go_wp2
  all_goals
    go_returns
    exact ⟨rfl, by go_grown⟩

set_option maxRecDepth 100000 in
set_option maxHeartbeats 4000000 in
theorem include_full2 (e : Int) (o0 o1 o3 o4 : Bool) (j0 j1 j2 j3 j4 : Int) (w : World) (he : 1099511627776 ≤ e) : Calls Try.prog 27 #[.agg #[.int .i64 (e), .bool o0, .bool o1, .bool true, .bool o3, .bool o4, .int .i64 j0, .int .i64 j1, .int .i64 j2, .int .i64 j3, .int .i64 j4], .int .i64 2] w fun x w' => x = .returned (.tuple #[.agg #[.int .i64 (e), .bool o0, .bool o1, .bool true, .bool o3, .bool o4, .int .i64 j0, .int .i64 j1, .int .i64 j2, .int .i64 j3, .int .i64 j4], .bool false]) ∧ Below w.heap.size w w' := by
  go_enter Try.func27, Try.ntmps27
  go_wp2
  all_goals
    go_returns
    exact ⟨rfl, by go_grown⟩

set_option maxRecDepth 100000 in
set_option maxHeartbeats 4000000 in
theorem include_in2 (e : Int) (o0 o1 o3 o4 : Bool) (j0 j1 j2 j3 j4 : Int) (w : World)  : Calls Try.prog 27 #[.agg #[.int .i64 (e), .bool o0, .bool o1, .bool false, .bool o3, .bool o4, .int .i64 j0, .int .i64 j1, .int .i64 j2, .int .i64 j3, .int .i64 j4], .int .i64 2] w fun x w' => x = .returned (.tuple #[.agg #[.int .i64 (e), .bool o0, .bool o1, .bool false, .bool o3, .bool o4, .int .i64 j0, .int .i64 j1, .int .i64 j2, .int .i64 j3, .int .i64 j4], .bool false]) ∧ Below w.heap.size w w' := by
  go_enter Try.func27, Try.ntmps27
  go_wp2
  all_goals
    go_returns
    exact ⟨rfl, by go_grown⟩

set_option maxRecDepth 100000 in
set_option maxHeartbeats 4000000 in
theorem exclude_yes3 (e : Int) (o0 o1 o2 o4 : Bool) (j0 j1 j2 j3 j4 : Int) (w : World) (he0 : -9223372036854775808 ≤ e) (he : e < 1099511627776) : Calls Try.prog 26 #[.agg #[.int .i64 (e), .bool o0, .bool o1, .bool o2, .bool false, .bool o4, .int .i64 j0, .int .i64 j1, .int .i64 j2, .int .i64 j3, .int .i64 j4], .int .i64 3] w fun x w' => x = .returned (.tuple #[.agg #[.int .i64 (e + 1), .bool o0, .bool o1, .bool o2, .bool true, .bool o4, .int .i64 j0, .int .i64 j1, .int .i64 j2, .int .i64 j3, .int .i64 j4], .bool true]) ∧ Below w.heap.size w w' := by
  go_enter Try.func26, Try.ntmps26
  go_wp2
  all_goals
    go_returns
    exact ⟨rfl, by go_grown⟩

set_option maxRecDepth 100000 in
set_option maxHeartbeats 4000000 in
theorem exclude_full3 (e : Int) (o0 o1 o2 o4 : Bool) (j0 j1 j2 j3 j4 : Int) (w : World) (he : 1099511627776 ≤ e) : Calls Try.prog 26 #[.agg #[.int .i64 (e), .bool o0, .bool o1, .bool o2, .bool false, .bool o4, .int .i64 j0, .int .i64 j1, .int .i64 j2, .int .i64 j3, .int .i64 j4], .int .i64 3] w fun x w' => x = .returned (.tuple #[.agg #[.int .i64 (e), .bool o0, .bool o1, .bool o2, .bool false, .bool o4, .int .i64 j0, .int .i64 j1, .int .i64 j2, .int .i64 j3, .int .i64 j4], .bool false]) ∧ Below w.heap.size w w' := by
  go_enter Try.func26, Try.ntmps26
  go_wp2
  all_goals
    go_returns
    exact ⟨rfl, by go_grown⟩

set_option maxRecDepth 100000 in
set_option maxHeartbeats 4000000 in
theorem exclude_out3 (e : Int) (o0 o1 o2 o4 : Bool) (j0 j1 j2 j3 j4 : Int) (w : World)  : Calls Try.prog 26 #[.agg #[.int .i64 (e), .bool o0, .bool o1, .bool o2, .bool true, .bool o4, .int .i64 j0, .int .i64 j1, .int .i64 j2, .int .i64 j3, .int .i64 j4], .int .i64 3] w fun x w' => x = .returned (.tuple #[.agg #[.int .i64 (e), .bool o0, .bool o1, .bool o2, .bool true, .bool o4, .int .i64 j0, .int .i64 j1, .int .i64 j2, .int .i64 j3, .int .i64 j4], .bool false]) ∧ Below w.heap.size w w' := by
  go_enter Try.func26, Try.ntmps26
  go_wp2
  all_goals
    go_returns
    exact ⟨rfl, by go_grown⟩

set_option maxRecDepth 100000 in
set_option maxHeartbeats 4000000 in
theorem include_yes3 (e : Int) (o0 o1 o2 o4 : Bool) (j0 j1 j2 j3 j4 : Int) (w : World) (he0 : -9223372036854775808 ≤ e) (he : e < 1099511627776) : Calls Try.prog 27 #[.agg #[.int .i64 (e), .bool o0, .bool o1, .bool o2, .bool true, .bool o4, .int .i64 j0, .int .i64 j1, .int .i64 j2, .int .i64 j3, .int .i64 j4], .int .i64 3] w fun x w' => x = .returned (.tuple #[.agg #[.int .i64 (e + 1), .bool o0, .bool o1, .bool o2, .bool false, .bool o4, .int .i64 j0, .int .i64 j1, .int .i64 j2, .int .i64 (e + 1), .int .i64 j4], .bool true]) ∧ Below w.heap.size w w' := by
  go_enter Try.func27, Try.ntmps27
  go_wp2
  all_goals
    go_returns
    exact ⟨rfl, by go_grown⟩

set_option maxRecDepth 100000 in
set_option maxHeartbeats 4000000 in
theorem include_full3 (e : Int) (o0 o1 o2 o4 : Bool) (j0 j1 j2 j3 j4 : Int) (w : World) (he : 1099511627776 ≤ e) : Calls Try.prog 27 #[.agg #[.int .i64 (e), .bool o0, .bool o1, .bool o2, .bool true, .bool o4, .int .i64 j0, .int .i64 j1, .int .i64 j2, .int .i64 j3, .int .i64 j4], .int .i64 3] w fun x w' => x = .returned (.tuple #[.agg #[.int .i64 (e), .bool o0, .bool o1, .bool o2, .bool true, .bool o4, .int .i64 j0, .int .i64 j1, .int .i64 j2, .int .i64 j3, .int .i64 j4], .bool false]) ∧ Below w.heap.size w w' := by
  go_enter Try.func27, Try.ntmps27
  go_wp2
  all_goals
    go_returns
    exact ⟨rfl, by go_grown⟩

set_option maxRecDepth 100000 in
set_option maxHeartbeats 4000000 in
theorem include_in3 (e : Int) (o0 o1 o2 o4 : Bool) (j0 j1 j2 j3 j4 : Int) (w : World)  : Calls Try.prog 27 #[.agg #[.int .i64 (e), .bool o0, .bool o1, .bool o2, .bool false, .bool o4, .int .i64 j0, .int .i64 j1, .int .i64 j2, .int .i64 j3, .int .i64 j4], .int .i64 3] w fun x w' => x = .returned (.tuple #[.agg #[.int .i64 (e), .bool o0, .bool o1, .bool o2, .bool false, .bool o4, .int .i64 j0, .int .i64 j1, .int .i64 j2, .int .i64 j3, .int .i64 j4], .bool false]) ∧ Below w.heap.size w w' := by
  go_enter Try.func27, Try.ntmps27
  go_wp2
  all_goals
    go_returns
    exact ⟨rfl, by go_grown⟩

set_option maxRecDepth 100000 in
set_option maxHeartbeats 4000000 in
theorem exclude_yes4 (e : Int) (o0 o1 o2 o3 : Bool) (j0 j1 j2 j3 j4 : Int) (w : World) (he0 : -9223372036854775808 ≤ e) (he : e < 1099511627776) : Calls Try.prog 26 #[.agg #[.int .i64 (e), .bool o0, .bool o1, .bool o2, .bool o3, .bool false, .int .i64 j0, .int .i64 j1, .int .i64 j2, .int .i64 j3, .int .i64 j4], .int .i64 4] w fun x w' => x = .returned (.tuple #[.agg #[.int .i64 (e + 1), .bool o0, .bool o1, .bool o2, .bool o3, .bool true, .int .i64 j0, .int .i64 j1, .int .i64 j2, .int .i64 j3, .int .i64 j4], .bool true]) ∧ Below w.heap.size w w' := by
  go_enter Try.func26, Try.ntmps26
  go_wp2
  all_goals
    go_returns
    exact ⟨rfl, by go_grown⟩

set_option maxRecDepth 100000 in
set_option maxHeartbeats 4000000 in
theorem exclude_full4 (e : Int) (o0 o1 o2 o3 : Bool) (j0 j1 j2 j3 j4 : Int) (w : World) (he : 1099511627776 ≤ e) : Calls Try.prog 26 #[.agg #[.int .i64 (e), .bool o0, .bool o1, .bool o2, .bool o3, .bool false, .int .i64 j0, .int .i64 j1, .int .i64 j2, .int .i64 j3, .int .i64 j4], .int .i64 4] w fun x w' => x = .returned (.tuple #[.agg #[.int .i64 (e), .bool o0, .bool o1, .bool o2, .bool o3, .bool false, .int .i64 j0, .int .i64 j1, .int .i64 j2, .int .i64 j3, .int .i64 j4], .bool false]) ∧ Below w.heap.size w w' := by
  go_enter Try.func26, Try.ntmps26
  go_wp2
  all_goals
    go_returns
    exact ⟨rfl, by go_grown⟩

set_option maxRecDepth 100000 in
set_option maxHeartbeats 4000000 in
theorem exclude_out4 (e : Int) (o0 o1 o2 o3 : Bool) (j0 j1 j2 j3 j4 : Int) (w : World)  : Calls Try.prog 26 #[.agg #[.int .i64 (e), .bool o0, .bool o1, .bool o2, .bool o3, .bool true, .int .i64 j0, .int .i64 j1, .int .i64 j2, .int .i64 j3, .int .i64 j4], .int .i64 4] w fun x w' => x = .returned (.tuple #[.agg #[.int .i64 (e), .bool o0, .bool o1, .bool o2, .bool o3, .bool true, .int .i64 j0, .int .i64 j1, .int .i64 j2, .int .i64 j3, .int .i64 j4], .bool false]) ∧ Below w.heap.size w w' := by
  go_enter Try.func26, Try.ntmps26
  go_wp2
  all_goals
    go_returns
    exact ⟨rfl, by go_grown⟩

set_option maxRecDepth 100000 in
set_option maxHeartbeats 4000000 in
theorem include_yes4 (e : Int) (o0 o1 o2 o3 : Bool) (j0 j1 j2 j3 j4 : Int) (w : World) (he0 : -9223372036854775808 ≤ e) (he : e < 1099511627776) : Calls Try.prog 27 #[.agg #[.int .i64 (e), .bool o0, .bool o1, .bool o2, .bool o3, .bool true, .int .i64 j0, .int .i64 j1, .int .i64 j2, .int .i64 j3, .int .i64 j4], .int .i64 4] w fun x w' => x = .returned (.tuple #[.agg #[.int .i64 (e + 1), .bool o0, .bool o1, .bool o2, .bool o3, .bool false, .int .i64 j0, .int .i64 j1, .int .i64 j2, .int .i64 j3, .int .i64 (e + 1)], .bool true]) ∧ Below w.heap.size w w' := by
  go_enter Try.func27, Try.ntmps27
  go_wp2
  all_goals
    go_returns
    exact ⟨rfl, by go_grown⟩

set_option maxRecDepth 100000 in
set_option maxHeartbeats 4000000 in
theorem include_full4 (e : Int) (o0 o1 o2 o3 : Bool) (j0 j1 j2 j3 j4 : Int) (w : World) (he : 1099511627776 ≤ e) : Calls Try.prog 27 #[.agg #[.int .i64 (e), .bool o0, .bool o1, .bool o2, .bool o3, .bool true, .int .i64 j0, .int .i64 j1, .int .i64 j2, .int .i64 j3, .int .i64 j4], .int .i64 4] w fun x w' => x = .returned (.tuple #[.agg #[.int .i64 (e), .bool o0, .bool o1, .bool o2, .bool o3, .bool true, .int .i64 j0, .int .i64 j1, .int .i64 j2, .int .i64 j3, .int .i64 j4], .bool false]) ∧ Below w.heap.size w w' := by
  go_enter Try.func27, Try.ntmps27
  go_wp2
  all_goals
    go_returns
    exact ⟨rfl, by go_grown⟩

set_option maxRecDepth 100000 in
set_option maxHeartbeats 4000000 in
theorem include_in4 (e : Int) (o0 o1 o2 o3 : Bool) (j0 j1 j2 j3 j4 : Int) (w : World)  : Calls Try.prog 27 #[.agg #[.int .i64 (e), .bool o0, .bool o1, .bool o2, .bool o3, .bool false, .int .i64 j0, .int .i64 j1, .int .i64 j2, .int .i64 j3, .int .i64 j4], .int .i64 4] w fun x w' => x = .returned (.tuple #[.agg #[.int .i64 (e), .bool o0, .bool o1, .bool o2, .bool o3, .bool false, .int .i64 j0, .int .i64 j1, .int .i64 j2, .int .i64 j3, .int .i64 j4], .bool false]) ∧ Below w.heap.size w w' := by
  go_enter Try.func27, Try.ntmps27
  go_wp2
  all_goals
    go_returns
    exact ⟨rfl, by go_grown⟩

set_option maxRecDepth 100000 in
set_option maxHeartbeats 4000000 in
theorem exclude_lo (e : Int) (o0 o1 o2 o3 o4 : Bool) (j0 j1 j2 j3 j4 : Int) (n : Int) (w : World) (hn : n < 0) : Calls Try.prog 26 #[.agg #[.int .i64 (e), .bool o0, .bool o1, .bool o2, .bool o3, .bool o4, .int .i64 j0, .int .i64 j1, .int .i64 j2, .int .i64 j3, .int .i64 j4], .int .i64 n] w fun x w' => x = .returned (.tuple #[.agg #[.int .i64 (e), .bool o0, .bool o1, .bool o2, .bool o3, .bool o4, .int .i64 j0, .int .i64 j1, .int .i64 j2, .int .i64 j3, .int .i64 j4], .bool false]) ∧ Below w.heap.size w w' := by
  go_enter Try.func26, Try.ntmps26
  go_wp2
  all_goals
    go_returns
    exact ⟨rfl, by go_grown⟩

set_option maxRecDepth 100000 in
set_option maxHeartbeats 4000000 in
theorem include_lo (e : Int) (o0 o1 o2 o3 o4 : Bool) (j0 j1 j2 j3 j4 : Int) (n : Int) (w : World) (hn : n < 0) : Calls Try.prog 27 #[.agg #[.int .i64 (e), .bool o0, .bool o1, .bool o2, .bool o3, .bool o4, .int .i64 j0, .int .i64 j1, .int .i64 j2, .int .i64 j3, .int .i64 j4], .int .i64 n] w fun x w' => x = .returned (.tuple #[.agg #[.int .i64 (e), .bool o0, .bool o1, .bool o2, .bool o3, .bool o4, .int .i64 j0, .int .i64 j1, .int .i64 j2, .int .i64 j3, .int .i64 j4], .bool false]) ∧ Below w.heap.size w w' := by
  go_enter Try.func27, Try.ntmps27
  go_wp2
  all_goals
    go_returns
    exact ⟨rfl, by go_grown⟩

set_option maxRecDepth 100000 in
set_option maxHeartbeats 4000000 in
theorem exclude_hi (e : Int) (o0 o1 o2 o3 o4 : Bool) (j0 j1 j2 j3 j4 : Int) (n : Int) (w : World) (hn : 5 ≤ n) : Calls Try.prog 26 #[.agg #[.int .i64 (e), .bool o0, .bool o1, .bool o2, .bool o3, .bool o4, .int .i64 j0, .int .i64 j1, .int .i64 j2, .int .i64 j3, .int .i64 j4], .int .i64 n] w fun x w' => x = .returned (.tuple #[.agg #[.int .i64 (e), .bool o0, .bool o1, .bool o2, .bool o3, .bool o4, .int .i64 j0, .int .i64 j1, .int .i64 j2, .int .i64 j3, .int .i64 j4], .bool false]) ∧ Below w.heap.size w w' := by
  go_enter Try.func26, Try.ntmps26
  go_wp2
  all_goals
    go_returns
    exact ⟨rfl, by go_grown⟩

set_option maxRecDepth 100000 in
set_option maxHeartbeats 4000000 in
theorem include_hi (e : Int) (o0 o1 o2 o3 o4 : Bool) (j0 j1 j2 j3 j4 : Int) (n : Int) (w : World) (hn : 5 ≤ n) : Calls Try.prog 27 #[.agg #[.int .i64 (e), .bool o0, .bool o1, .bool o2, .bool o3, .bool o4, .int .i64 j0, .int .i64 j1, .int .i64 j2, .int .i64 j3, .int .i64 j4], .int .i64 n] w fun x w' => x = .returned (.tuple #[.agg #[.int .i64 (e), .bool o0, .bool o1, .bool o2, .bool o3, .bool o4, .int .i64 j0, .int .i64 j1, .int .i64 j2, .int .i64 j3, .int .i64 j4], .bool false]) ∧ Below w.heap.size w w' := by
  go_enter Try.func27, Try.ntmps27
  go_wp2
  all_goals
    go_returns
    exact ⟨rfl, by go_grown⟩

end Go.Proofs.Ytnaaknkknhediaa
