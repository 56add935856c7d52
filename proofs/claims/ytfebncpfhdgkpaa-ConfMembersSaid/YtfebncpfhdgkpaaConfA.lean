/- Contracts of the small functions of package conf, and of the law's own: which configurations may be, who is in, what becomes of one. A configuration is eleven cells. No condition. -/
import Derived.Test.YtfebncpfhdgkpaaWords
namespace Go.Proofs.Ytfebncpfhdgkpaa
open Go.RowKit Go.Sort

/-- The five bits and the five numbers, by place. -/
def cOut (o0 o1 o2 o3 o4 : Bool) (n : Int) : Bool := if n = 0 then o0 else if n = 1 then o1 else if n = 2 then o2 else if n = 3 then o3 else if n = 4 then o4 else true
def cJoin (j0 j1 j2 j3 j4 : Int) (n : Int) : Int := if n = 0 then j0 else if n = 1 then j1 else if n = 2 then j2 else if n = 3 then j3 else if n = 4 then j4 else 1
def cRight (e j0 j1 j2 j3 j4 : Int) : Bool := decide (0 ≤ e ∧ e ≤ 1099511627776 ∧ (0 ≤ j0 ∧ j0 ≤ e) ∧ (0 ≤ j1 ∧ j1 ≤ e) ∧ (0 ≤ j2 ∧ j2 ≤ e) ∧ (0 ≤ j3 ∧ j3 ≤ e) ∧ (0 ≤ j4 ∧ j4 ≤ e))
theorem cases5 (n : Int) : n < 0 ∨ 5 ≤ n ∨ n = 0 ∨ n = 1 ∨ n = 2 ∨ n = 3 ∨ n = 4 := by omega
theorem ret_bool {a b : Bool} (h : a = b) : Ending.returned (.bool a) = .returned (.bool b) := by rw [h]

theorem conf_in (n : Int) (w : World) : Calls Try.prog 99 #[.int .i64 n] w fun e w' => e = .returned (.bool (decide (0 ≤ n ∧ n < 5))) ∧ w = w' := by
  by_cases h0 : 0 ≤ n
  · by_cases h5 : n < 5
    · go_enter Try.func99, Try.ntmps99
      go_wp2
      go_ret
      exact ⟨ret_bool (by simp; omega), rfl⟩
    · go_enter Try.func99, Try.ntmps99
      go_wp2
      go_ret
      exact ⟨ret_bool (by simp; omega), rfl⟩
  · go_enter Try.func99, Try.ntmps99
    go_wp2
    go_ret
    exact ⟨ret_bool (by simp; omega), rfl⟩

set_option maxRecDepth 100000 in
theorem conf_Is (e : Int) (o0 o1 o2 o3 o4 : Bool) (j0 j1 j2 j3 j4 : Int) (n : Int) (w : World) : Calls Try.prog 71 #[.agg #[.int .i64 (e), .bool o0, .bool o1, .bool o2, .bool o3, .bool o4, .int .i64 j0, .int .i64 j1, .int .i64 j2, .int .i64 j3, .int .i64 j4], .int .i64 n] w fun x w' => x = .returned (.bool (!cOut o0 o1 o2 o3 o4 n)) ∧ Below w.heap.size w w' := by
  rcases cases5 n with h | h | rfl | rfl | rfl | rfl | rfl
  all_goals
    go_enter Try.func71, Try.ntmps71
    go_wp2
    go_ret
    exact ⟨ret_bool (by first | rfl | (simp [cOut]; done) | (unfold cOut; rw [if_neg (by omega), if_neg (by omega), if_neg (by omega), if_neg (by omega), if_neg (by omega)]; rfl)), (Below.refl _ _).alloc (Nat.le_refl _) _⟩

set_option maxRecDepth 100000 in
set_option maxHeartbeats 1000000 in
theorem conf_Always (e : Int) (o0 o1 o2 o3 o4 : Bool) (j0 j1 j2 j3 j4 : Int) (n : Int) (w : World) : Calls Try.prog 67 #[.agg #[.int .i64 (e), .bool o0, .bool o1, .bool o2, .bool o3, .bool o4, .int .i64 j0, .int .i64 j1, .int .i64 j2, .int .i64 j3, .int .i64 j4], .int .i64 n] w fun x w' => x = .returned (.bool (!cOut o0 o1 o2 o3 o4 n && (cJoin j0 j1 j2 j3 j4 n == 0))) ∧ Below w.heap.size w w' := by
  rcases cases5 n with h | h | rfl | rfl | rfl | rfl | rfl
  all_goals
    go_enter Try.func67, Try.ntmps67
    go_wp2
    all_goals
      go_ret
      exact ⟨ret_bool (by first | (simp [cOut, cJoin, *]; done) | (unfold cOut; rw [if_neg (by omega), if_neg (by omega), if_neg (by omega), if_neg (by omega), if_neg (by omega)]; rfl)), ((Below.refl _ _).alloc (Nat.le_refl _) _).alloc (by simp) _⟩

set_option maxRecDepth 100000 in
set_option maxHeartbeats 4000000 in
theorem conf_Right (e : Int) (o0 o1 o2 o3 o4 : Bool) (j0 j1 j2 j3 j4 : Int) (w : World) : Calls Try.prog 90 #[.agg #[.int .i64 (e), .bool o0, .bool o1, .bool o2, .bool o3, .bool o4, .int .i64 j0, .int .i64 j1, .int .i64 j2, .int .i64 j3, .int .i64 j4]] w fun x w' => x = .returned (.bool (cRight e j0 j1 j2 j3 j4)) ∧ Below w.heap.size w w' := by
  have i0 : ∀ w, (Instr.index 35 (.agg #[.int .i64 j0, .int .i64 j1, .int .i64 j2, .int .i64 j3, .int .i64 j4]) (.int .i64 0)).run Try.prog w = .ok (.int .i64 j0) w := fun _ => by kernel_rfl
  have i1 : ∀ w, (Instr.index 35 (.agg #[.int .i64 j0, .int .i64 j1, .int .i64 j2, .int .i64 j3, .int .i64 j4]) (.int .i64 1)).run Try.prog w = .ok (.int .i64 j1) w := fun _ => by kernel_rfl
  have i2 : ∀ w, (Instr.index 35 (.agg #[.int .i64 j0, .int .i64 j1, .int .i64 j2, .int .i64 j3, .int .i64 j4]) (.int .i64 2)).run Try.prog w = .ok (.int .i64 j2) w := fun _ => by kernel_rfl
  have i3 : ∀ w, (Instr.index 35 (.agg #[.int .i64 j0, .int .i64 j1, .int .i64 j2, .int .i64 j3, .int .i64 j4]) (.int .i64 3)).run Try.prog w = .ok (.int .i64 j3) w := fun _ => by kernel_rfl
  have i4 : ∀ w, (Instr.index 35 (.agg #[.int .i64 j0, .int .i64 j1, .int .i64 j2, .int .i64 j3, .int .i64 j4]) (.int .i64 4)).run Try.prog w = .ok (.int .i64 j4) w := fun _ => by kernel_rfl
  go_enter Try.func90, Try.ntmps90
  go_wp2
  all_goals try (refine wp_loop_rounds 6 ?_; repeat any_goals (rw [rounds_succ]; go_wp2))
  all_goals
    go_ret
    exact ⟨ret_bool (by unfold cRight; simp; omega), (Below.refl _ _).alloc (Nat.le_refl _) _⟩

end Go.Proofs.Ytfebncpfhdgkpaa
