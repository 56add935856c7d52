/- Contracts of a clock's Last and See. -/
import Derived.Test.YtnaaknkknhediaaStampF
import Derived.Deep.RegionWith
namespace Go.Proofs.Ytnaaknkknhediaa
open Go.RowKit Go.Sort

set_option maxRecDepth 100000 in
theorem clock_Last (g : Nat) (who phys l0 l1 l2 : Int) (w : World) (h : Clk w g who phys l0 l1 l2) :
    Calls Try.prog 67 #[.pointer (some ⟨g, 0, none⟩)] w fun e w' => e = .returned (.agg #[.int .i64 l0, .int .i64 l1, .int .i64 l2]) ∧ Below w.heap.size w w' := by
  have hlt := Blk.lt h
  have HC := (Blk.alloc h (.cells #[.int .i64 0, .int .i64 0, .int .i64 0] 51))
  have hc := HC.cell
  have hne : w.heap.size ≠ g := by omega
  clear HC
  go_enter Try.func67, Try.ntmps67
  go_wp2_with fail
  (try simp only [Exit.inBlock, Exit.then])
  refine bodyPost_ret (v := .agg #[.int .i64 l0, .int .i64 l1, .int .i64 l2]) (by simp [results, Try.results67, go_sem]) rfl ⟨rfl, ?_⟩
  first
  | exact (((Below.refl _ _).alloc (Nat.le_refl _) _))
  | exact ((((Below.refl _ _).alloc (Nat.le_refl _) _).setCell (by simp) _).setCell (by simp) _).setCell (by simp) _

set_option maxRecDepth 100000 in
set_option maxHeartbeats 1000000 in
theorem clock_See (g : Nat) (who phys l0 l1 l2 a b c m0 m1 m2 : Int) (w : World) (h : Clk w g who phys l0 l1 l2)
    (hM : (if cmpS l0 l1 l2 a b c < 0 then Value.agg #[.int .i64 a, .int .i64 b, .int .i64 c] else .agg #[.int .i64 l0, .int .i64 l1, .int .i64 l2]) = .agg #[.int .i64 m0, .int .i64 m1, .int .i64 m2]) :
    Calls Try.prog 56 #[.pointer (some ⟨g, 0, none⟩), .agg #[.int .i64 a, .int .i64 b, .int .i64 c]] w fun e w' => e = .returned (.tuple #[]) ∧
      (rightB a b c = true → Clk w' g who phys m0 m1 m2) ∧ (rightB a b c = false → Clk w' g who phys l0 l1 l2) ∧ w.grownBy w' (some g) := by
  have hlt := Blk.lt h
  go_enter Try.func56, Try.ntmps56
  go_wp2_with fail
  have BC := Blk.alloc h (.cells #[.int .i64 a, .int .i64 b, .int .i64 c] 51)
  have BX := Blk.new w 51 #[.int .i64 a, .int .i64 b, .int .i64 c]
  have hG : Below w.heap.size w (w.alloc (.cells #[.int .i64 a, .int .i64 b, .int .i64 c] 51)) := (Below.refl _ _).alloc (Nat.le_refl _) _
  generalize w.alloc (.cells #[.int .i64 a, .int .i64 b, .int .i64 c] 51) = W at *
  refine (stamp_Right a b c _).mono ?_
  rintro e w1 ⟨rfl, b1⟩
  have BC1 := BC.below b1 BC.lt
  have BX1 := BX.below b1 BX.lt
  have hG1 := hG.trans (b1.mono hG.size)
  clear BC BX hG b1 h
  cases hr : rightB a b c with
  | false =>
    go_wp2_with fail
    go_returns
    exact ⟨rfl, fun hx => absurd (hr.symm.trans hx) (by decide), fun _ => BC1, grown_of_below hG1⟩
  | true =>
    have hc := BC1.cell
    have hx := BX1.cell
    have HM := Lib.hid hM
    have HC := Lib.hid BC1
    have HG := Lib.hid hG1
    clear hM BC1 BX1 hG1
    go_wp2_with fail
    go_region_with (go_at_call 47; refine (stamp_Max l0 l1 l2 a b c _).mono ?_; rw [HM.out]; rintro e w2 ⟨rfl, b2⟩; have c2 := (HC.out.drew.below b2 HC.out.lt).cell; have f2 := (HC.out.drew.below b2 HC.out.lt).frozen)
    all_goals
      try go_wp2_with fail
      go_returns
      have D := ((((HC.out.drew.below b2 HC.out.lt)).set_ 2 (.int .i64 m0)).set_ 3 (.int .i64 m1)).set_ 4 (.int .i64 m2)
      have G := below_drewN HG.out 1
      have hs := HG.out.size
      have G2 := Below.trans G (b2.mono hs)
      exact ⟨rfl, fun _ => by unfold Clk; simpa using D, fun hx => absurd (hr.symm.trans hx) (by decide), grown_set_row (grown_set_row (grown_set_row (grown_of_below G2) _) _) _⟩
end Go.Proofs.Ytnaaknkknhediaa
