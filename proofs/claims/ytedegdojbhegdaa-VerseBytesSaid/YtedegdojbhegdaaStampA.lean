/- Contracts of cmp.isNaN, cmp.Compare, cmp.Or (of three) at int. No condition. -/
import Derived.Test.YtedegdojbhegdaaWords
import Derived.Lib.Hide
import Derived.Test.YtedegdojbhegdaaBytesA
namespace Go.Proofs.Ytedegdojbhegdaa
open Go.RowKit Go.Sort

/-- How two numbers stand. -/
def cmpI (a b : Int) : Int := if a < b then -1 else if b < a then 1 else 0
/-- The first that is not 0. -/
def or3 (x y z : Int) : Int := if x = 0 then (if y = 0 then z else y) else x

theorem cmp_isNaN (a : Int) (w : World) : Calls Try.prog 93 #[.int .i64 a] w fun e w' => e = .returned (.bool false) ∧ w = w' := by
  go_enter Try.func93, Try.ntmps93
  go_wp2
  go_ret
  exact ⟨ret_bool' (by simp), rfl⟩

set_option maxRecDepth 100000 in
theorem cmp_Compare (a b : Int) (w : World) : Calls Try.prog 85 #[.int .i64 a, .int .i64 b] w fun e w' => e = .returned (.int .i64 (cmpI a b)) ∧ w = w' := by
  unfold cmpI
  have hcase : (decide (a < b) = true ∧ a < b) ∨ (decide (a < b) = false ∧ ¬ a < b ∧ decide (b < a) = true ∧ b < a) ∨ (decide (a < b) = false ∧ ¬ a < b ∧ decide (b < a) = false ∧ ¬ b < a) := by simp; omega
  rcases hcase with ⟨h1, h2⟩ | ⟨h1, h2, h3, h4⟩ | ⟨h1, h2, h3, h4⟩
  · rw [if_pos h2]
    clear h2
    go_enter Try.func85, Try.ntmps85
    go_wp2_with fail
    refine (cmp_isNaN a w).mono ?_
    rintro e w1 ⟨rfl, rfl⟩
    go_wp2_with fail
    refine (cmp_isNaN b w).mono ?_
    rintro e w1 ⟨rfl, rfl⟩
    go_wp2_with fail
    go_ret
    exact ⟨rfl, rfl⟩
  all_goals
    first | rw [if_neg h2, if_pos h4] | rw [if_neg h2, if_neg h4]
    clear h2 h4
    go_enter Try.func85, Try.ntmps85
    go_wp2_with fail
    refine (cmp_isNaN a w).mono ?_
    rintro e w1 ⟨rfl, rfl⟩
    go_wp2_with fail
    refine (cmp_isNaN b w).mono ?_
    rintro e w1 ⟨rfl, rfl⟩
    go_wp2_with fail
    go_ret
    exact ⟨rfl, rfl⟩

set_option maxRecDepth 100000 in
theorem cmp_Or3 (w : World) (g : Nat) (x y z : Int) (h0 : w.cell? ⟨g, 0, none⟩ = some (.int .i64 x)) (h1 : w.cell? ⟨g, 1, none⟩ = some (.int .i64 y)) (h2 : w.cell? ⟨g, 2, none⟩ = some (.int .i64 z)) :
    Calls Try.prog 65 #[.slice (some ⟨g, 0, none⟩) 3 3] w fun e w' => e = .returned (.int .i64 (or3 x y z)) ∧ w = w' := by
  unfold or3
  by_cases hx : x = 0
  · subst hx
    by_cases hy : y = 0
    · subst hy
      by_cases hz : z = 0
      · subst hz
        go_enter Try.func65, Try.ntmps65
        go_wp2
        refine wp_loop_rounds 4 ?_
        iterate 4 (rw [rounds_succ]; go_wp2)
        go_ret
        exact ⟨rfl, rfl⟩
      · have b1 : (z == 0) = false := by simp [hz]
        go_enter Try.func65, Try.ntmps65
        go_wp2
        refine wp_loop_rounds 3 ?_
        iterate 3 (rw [rounds_succ]; go_wp2)
        go_ret
        exact ⟨rfl, rfl⟩
    · have b1 : (y == 0) = false := by simp [hy]
      rw [if_pos rfl, if_neg hy]
      clear hy
      go_enter Try.func65, Try.ntmps65
      go_wp2
      refine wp_loop_rounds 2 ?_
      iterate 2 (rw [rounds_succ]; go_wp2)
      go_ret
      exact ⟨rfl, rfl⟩
  · have b1 : (x == 0) = false := by simp [hx]
    rw [if_neg hx]
    clear hx
    go_enter Try.func65, Try.ntmps65
    go_wp2
    refine wp_loop_rounds 1 ?_
    iterate 1 (rw [rounds_succ]; go_wp2)
    go_ret
    exact ⟨rfl, rfl⟩
end Go.Proofs.Ytedegdojbhegdaa
