/- Contracts of a clock's Tick, Phys, Last; of the reference's Cut. -/
import Derived.Test.YtnaaknkknhediaaStampE
namespace Go.Proofs.Ytnaaknkknhediaa
open Go.RowKit Go.Sort

theorem ref04_Cut (n : Int) (w : World) : Calls Try.prog 64 #[.int .i64 n] w fun e w' => e = .returned (.int .i64 (cutS n)) ∧ w = w' := by
  unfold cutS
  have hcase : (decide (n < 0) = true ∧ min (max n 0) 1099511627776 = 0) ∨ (decide (n < 0) = false ∧ decide (1099511627776 < n) = true ∧ min (max n 0) 1099511627776 = 1099511627776) ∨ (decide (n < 0) = false ∧ decide (1099511627776 < n) = false ∧ min (max n 0) 1099511627776 = n) := by
    simp only [decide_eq_true_eq, decide_eq_false_iff_not]
    omega
  rcases hcase with ⟨h1, h⟩ | ⟨h1, h2, h⟩ | ⟨h1, h2, h⟩
  all_goals
    rw [h]
    clear h
    go_enter Try.func64, Try.ntmps64
    go_wp2
    go_ret
    exact ⟨rfl, rfl⟩

/-- Block g is a clock. -/
def Clk (w : World) (g : Nat) (who phys l0 l1 l2 : Int) : Prop := Blk w g 111 #[.int .i64 who, .int .i64 phys, .int .i64 l0, .int .i64 l1, .int .i64 l2]

theorem clock_Phys (g : Nat) (who phys l0 l1 l2 : Int) (w : World) (h : Clk w g who phys l0 l1 l2) :
    Calls Try.prog 66 #[.pointer (some ⟨g, 0, none⟩)] w fun e w' => e = .returned (.int .i64 phys) ∧ w = w' := by
  have hc := Blk.cell h
  go_enter Try.func66, Try.ntmps66
  go_wp2
  go_ret
  exact ⟨rfl, rfl⟩

set_option maxRecDepth 100000 in
theorem clock_Tick (g : Nat) (who phys l0 l1 l2 n : Int) (w : World) (h : Clk w g who phys l0 l1 l2) (hp : 0 ≤ phys ∧ phys ≤ 1099511627776) :
    Calls Try.prog 55 #[.pointer (some ⟨g, 0, none⟩), .int .i64 n] w fun e w' => e = .returned (.tuple #[]) ∧ Clk w' g who (cutS (phys + cutS n)) l0 l1 l2 ∧ w.grownBy w' (some g) := by
  have hc := Blk.cell h
  have hf := Blk.frozen h
  have key : ∀ x : Int, cutS (phys + cutS n) = x → Clk (w.setCell ⟨g, 1, none⟩ (.int .i64 x)) g who (cutS (phys + cutS n)) l0 l1 l2 ∧ w.grownBy (w.setCell ⟨g, 1, none⟩ (.int .i64 x)) (some g) := by
    rintro x rfl
    exact ⟨by have := Blk.set_ h 1 (.int .i64 (cutS (phys + cutS n))); unfold Clk; simpa using this, grown_set_row (World.grownBy.refl w _) _⟩
  unfold cutS at key ⊢
  have K := Lib.hid key
  clear key h
  go_enter Try.func55, Try.ntmps55
  go_wp2_with fail
  all_goals
    go_returns
    refine ⟨rfl, K.out _ ?_⟩
    omega
end Go.Proofs.Ytnaaknkknhediaa
