/- Contracts of stamp.Right and of the reference's in and Right. No condition but that the numbers are those of 64 bits. -/
import Derived.Test.YthbhbechemnidaaDoorStampB
namespace Go.Proofs.YthbhbechemnidaaDoor
open Go.RowKit Go.Sort

/-- May there be such a stamp? -/
def rightB (a b c : Int) : Bool := decide (0 ≤ a ∧ 0 ≤ b ∧ 0 ≤ c ∧ a ≤ 1099511627776 ∧ b ≤ 1099511627776 ∧ c ≤ 1099511627776 ∧ 0 < a + b + c)
def inB (n : Int) : Bool := decide (0 ≤ n ∧ n ≤ 1099511627776)

theorem ref04_in (n : Int) (w : World) : Calls Tryd.prog 99 #[.int .i64 n] w fun e w' => e = .returned (.bool (inB n)) ∧ w = w' := by
  unfold inB
  have hcase : (decide (0 ≤ n) = true ∧ 0 ≤ n) ∨ (decide (0 ≤ n) = false ∧ ¬ 0 ≤ n) := by simp; omega
  rcases hcase with ⟨h1, h2⟩ | ⟨h1, h2⟩
  all_goals
    go_enter Tryd.func99, Tryd.ntmps99
    go_wp2
    go_ret
    exact ⟨ret_bool' (by simp [h2]), rfl⟩

set_option maxRecDepth 100000 in
set_option maxHeartbeats 400000 in
theorem ref04_Right (a b c : Int) (w : World) :
    Calls Tryd.prog 56 #[.agg #[.int .i64 a, .int .i64 b, .int .i64 c]] w fun e w' => e = .returned (.bool (rightB a b c)) ∧ Below w.heap.size w w' := by
  have hcase : (inB a = false ∧ rightB a b c = false) ∨ (inB a = true ∧ inB b = false ∧ rightB a b c = false) ∨ (inB a = true ∧ inB b = true ∧ inB c = false ∧ rightB a b c = false) ∨
      (inB a = true ∧ inB b = true ∧ inB c = true ∧ IntKind.i64.wrap (a + b) = a + b ∧ IntKind.i64.wrap (a + b + c) = a + b + c ∧ rightB a b c = decide (0 < a + b + c)) := by
    simp only [inB, rightB, decide_eq_true_eq, decide_eq_false_iff_not, decide_eq_decide, IntKind.wrap_i64]
    omega
  have hB : Below w.heap.size w (w.alloc (.cells #[.int .i64 a, .int .i64 b, .int .i64 c] 32)) := (Below.refl _ _).alloc (Nat.le_refl _) _
  rcases hcase with ⟨h1, hr⟩ | ⟨h1, h2, hr⟩ | ⟨h1, h2, h3, hr⟩ | ⟨h1, h2, h3, h4, h5, hr⟩
  all_goals
    rw [hr]
    clear hr
    have HB := Lib.hid hB
    clear hB
    go_enter Tryd.func56, Tryd.ntmps56
    go_wp2_with fail
    refine (ref04_in a _).mono ?_
    rintro e w1 ⟨rfl, rfl⟩
    rw [h1]
    go_wp2_with fail
    try
      refine (ref04_in b _).mono ?_
      rintro e w1 ⟨rfl, rfl⟩
      rw [h2]
      go_wp2_with fail
    try
      refine (ref04_in c _).mono ?_
      rintro e w1 ⟨rfl, rfl⟩
      rw [h3]
      go_wp2_with fail
    go_ret
    exact ⟨rfl, HB.out⟩

set_option maxRecDepth 100000 in
set_option maxHeartbeats 400000 in
theorem stamp_Right (a b c : Int) (w : World) :
    Calls Tryd.prog 78 #[.agg #[.int .i64 a, .int .i64 b, .int .i64 c]] w fun e w' => e = .returned (.bool (rightB a b c)) ∧ Below w.heap.size w w' := by
  have hcase : (decide (0 ≤ a) = false ∧ rightB a b c = false) ∨ (decide (0 ≤ a) = true ∧ decide (0 ≤ b) = false ∧ rightB a b c = false) ∨
      (decide (0 ≤ a) = true ∧ decide (0 ≤ b) = true ∧ decide (0 ≤ c) = false ∧ rightB a b c = false) ∨
      (decide (0 ≤ a) = true ∧ decide (0 ≤ b) = true ∧ decide (0 ≤ c) = true ∧ decide (a ≤ 1099511627776) = false ∧ rightB a b c = false) ∨
      (decide (0 ≤ a) = true ∧ decide (0 ≤ b) = true ∧ decide (0 ≤ c) = true ∧ decide (a ≤ 1099511627776) = true ∧ decide (b ≤ 1099511627776) = false ∧ rightB a b c = false) ∨
      (decide (0 ≤ a) = true ∧ decide (0 ≤ b) = true ∧ decide (0 ≤ c) = true ∧ decide (a ≤ 1099511627776) = true ∧ decide (b ≤ 1099511627776) = true ∧ decide (c ≤ 1099511627776) = false ∧ rightB a b c = false) ∨
      (decide (0 ≤ a) = true ∧ decide (0 ≤ b) = true ∧ decide (0 ≤ c) = true ∧ decide (a ≤ 1099511627776) = true ∧ decide (b ≤ 1099511627776) = true ∧ decide (c ≤ 1099511627776) = true ∧ rightB a b c = !(decide (a = 0) && (decide (b = 0) && decide (c = 0)))) := by
    have e : (!(decide (a = 0) && (decide (b = 0) && decide (c = 0)))) = decide (¬ (a = 0 ∧ b = 0 ∧ c = 0)) := by simp
    rw [e]
    simp only [rightB, decide_eq_true_eq, decide_eq_false_iff_not, decide_eq_decide]
    omega
  have hB : Below w.heap.size w (w.alloc (.cells #[.int .i64 a, .int .i64 b, .int .i64 c] 32)) := (Below.refl _ _).alloc (Nat.le_refl _) _
  rcases hcase with ⟨h1, hr⟩ | ⟨h1, h2, hr⟩ | ⟨h1, h2, h3, hr⟩ | ⟨h1, h2, h3, h4, hr⟩ | ⟨h1, h2, h3, h4, h5, hr⟩ | ⟨h1, h2, h3, h4, h5, h6, hr⟩ | ⟨h1, h2, h3, h4, h5, h6, hr⟩
  all_goals
    rw [hr]
    clear hr
    have HB := Lib.hid hB
    clear hB
    go_enter Tryd.func78, Tryd.ntmps78
    go_wp2_with fail
    all_goals
      go_ret
      first
      | exact ⟨rfl, HB.out⟩
      | exact ⟨ret_bool' (by simp [*]), (Below.refl _ _).alloc (Nat.le_refl _) _⟩
end Go.Proofs.YthbhbechemnidaaDoor
