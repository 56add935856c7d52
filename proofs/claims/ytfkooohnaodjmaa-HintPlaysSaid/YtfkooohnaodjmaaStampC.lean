/- Contracts of the reference's Compare, Less, Max of stamps. No condition. Contracts of stamp.Right and of the reference's in and Right. No condition but that the numbers are those of 64 bits. -/
import Derived.Test.YtfkooohnaodjmaaStampB
namespace Go.Proofs.Ytfkooohnaodjmaa
open Go.RowKit Go.Sort

theorem cmpI_lt {a b : Int} (h : a < b) : cmpI a b = -1 := by unfold cmpI; rw [if_pos h]
theorem cmpI_gt {a b : Int} (h : b < a) : cmpI a b = 1 := by unfold cmpI; rw [if_neg (by omega), if_pos h]
theorem cmpI_eq {a b : Int} (h : a = b) : cmpI a b = 0 := by unfold cmpI; rw [if_neg (by omega), if_neg (by omega)]
theorem cmpS_cases (a0 a1 a2 b0 b1 b2 : Int) :
    (a0 < b0 ∧ cmpS a0 a1 a2 b0 b1 b2 = -1) ∨ (b0 < a0 ∧ cmpS a0 a1 a2 b0 b1 b2 = 1) ∨ (a0 = b0 ∧ a1 < b1 ∧ cmpS a0 a1 a2 b0 b1 b2 = -1) ∨ (a0 = b0 ∧ b1 < a1 ∧ cmpS a0 a1 a2 b0 b1 b2 = 1) ∨
    (a0 = b0 ∧ a1 = b1 ∧ a2 < b2 ∧ cmpS a0 a1 a2 b0 b1 b2 = -1) ∨ (a0 = b0 ∧ a1 = b1 ∧ b2 < a2 ∧ cmpS a0 a1 a2 b0 b1 b2 = 1) ∨ (a0 = b0 ∧ a1 = b1 ∧ a2 = b2 ∧ cmpS a0 a1 a2 b0 b1 b2 = 0) := by
  rcases Int.lt_trichotomy a0 b0 with h | h | h
  · exact .inl ⟨h, by unfold cmpS or3; rw [cmpI_lt h]; rfl⟩
  · rcases Int.lt_trichotomy a1 b1 with k | k | k
    · exact .inr (.inr (.inl ⟨h, k, by unfold cmpS or3; rw [cmpI_eq h, cmpI_lt k]; rfl⟩))
    · rcases Int.lt_trichotomy a2 b2 with l | l | l
      · exact .inr (.inr (.inr (.inr (.inl ⟨h, k, l, by unfold cmpS or3; rw [cmpI_eq h, cmpI_eq k, cmpI_lt l]; rfl⟩))))
      · exact .inr (.inr (.inr (.inr (.inr (.inr ⟨h, k, l, by unfold cmpS or3; rw [cmpI_eq h, cmpI_eq k, cmpI_eq l]; rfl⟩)))))
      · exact .inr (.inr (.inr (.inr (.inr (.inl ⟨h, k, l, by unfold cmpS or3; rw [cmpI_eq h, cmpI_eq k, cmpI_gt l]; rfl⟩)))))
    · exact .inr (.inr (.inr (.inl ⟨h, k, by unfold cmpS or3; rw [cmpI_eq h, cmpI_gt k]; rfl⟩)))
  · exact .inr (.inl ⟨h, by unfold cmpS or3; rw [cmpI_gt h]; rfl⟩)

/-- Four new blocks. -/
theorem four_blocks (w : World) (t u : TypeId) (a b c d : Array Value) : ∃ W, Blk W (w.heap.size + 1 + 1) u c ∧ Blk W (w.heap.size + 1 + 1 + 1) u d ∧ Below w.heap.size w W ∧ W = (((w.alloc (.cells a t)).alloc (.cells b t)).alloc (.cells c u)).alloc (.cells d u) := by
  refine ⟨_, ?_, ?_, ((((Below.refl w.heap.size w).alloc (Nat.le_refl _) _).alloc (by simp) _).alloc (by simp; omega) _).alloc (by simp; omega) _, rfl⟩
  · have := (Blk.new ((w.alloc (.cells a t)).alloc (.cells b t)) u c).alloc (.cells d u)
    simpa using this
  · have := Blk.new (((w.alloc (.cells a t)).alloc (.cells b t)).alloc (.cells c u)) u d
    simpa using this

set_option maxRecDepth 100000 in
set_option maxHeartbeats 1000000 in
theorem ref04_Compare (a0 a1 a2 b0 b1 b2 : Int) (w : World) :
    Calls Try.prog 30 #[.agg #[.int .i64 a0, .int .i64 a1, .int .i64 a2], .agg #[.int .i64 b0, .int .i64 b1, .int .i64 b2]] w fun e w' => e = .returned (.int .i64 (cmpS a0 a1 a2 b0 b1 b2)) ∧ Below w.heap.size w w' := by
  have hcase := cmpS_cases a0 a1 a2 b0 b1 b2
  generalize cmpS a0 a1 a2 b0 b1 b2 = r at hcase ⊢
  rcases hcase with ⟨h, rfl⟩ | ⟨h, rfl⟩ | ⟨rfl, h, rfl⟩ | ⟨rfl, h, rfl⟩ | ⟨rfl, rfl, h, rfl⟩ | ⟨rfl, rfl, h, rfl⟩ | ⟨rfl, rfl, rfl, rfl⟩
  · have h1 : decide (a0 < b0) = true := by simp [h]
    clear h
    go_enter Try.func30, Try.ntmps30
    go_wp2
    obtain ⟨W, B2, B3, hW, hE⟩ := four_blocks w 30 88 #[.int .i64 a0, .int .i64 a1, .int .i64 a2] #[.int .i64 b0, .int .i64 b1, .int .i64 b2] #[.int .i64 a0, .int .i64 a1, .int .i64 a2] #[.int .i64 b0, .int .i64 b1, .int .i64 b2]
    rw [← hE]
    clear hE
    have C2 := B2.cell
    have C3 := B3.cell
    have HB := Lib.hid hW
    clear B2 B3 hW
    refine wp_loop_rounds 4 ?_
    rw [rounds_succ]
    go_wp2
    go_quiet (fail)
    go_wp2
    go_ret
    exact ⟨rfl, by repeat (first | exact HB.out | refine below_drewN ?_ _)⟩
  · have h1 : decide (a0 < b0) = false := by simp; omega
    have h2 : decide (b0 < a0) = true := by simp [h]
    clear h
    go_enter Try.func30, Try.ntmps30
    go_wp2
    obtain ⟨W, B2, B3, hW, hE⟩ := four_blocks w 30 88 #[.int .i64 a0, .int .i64 a1, .int .i64 a2] #[.int .i64 b0, .int .i64 b1, .int .i64 b2] #[.int .i64 a0, .int .i64 a1, .int .i64 a2] #[.int .i64 b0, .int .i64 b1, .int .i64 b2]
    rw [← hE]
    clear hE
    have C2 := B2.cell
    have C3 := B3.cell
    have HB := Lib.hid hW
    clear B2 B3 hW
    refine wp_loop_rounds 4 ?_
    rw [rounds_succ]
    go_wp2
    go_quiet (fail)
    go_wp2
    go_quiet (fail)
    go_wp2
    go_ret
    exact ⟨rfl, by repeat (first | exact HB.out | refine below_drewN ?_ _)⟩
  · have h1 : decide (a1 < b1) = true := by simp [h]
    clear h
    go_enter Try.func30, Try.ntmps30
    go_wp2
    obtain ⟨W, B2, B3, hW, hE⟩ := four_blocks w 30 88 #[.int .i64 a0, .int .i64 a1, .int .i64 a2] #[.int .i64 a0, .int .i64 b1, .int .i64 b2] #[.int .i64 a0, .int .i64 a1, .int .i64 a2] #[.int .i64 a0, .int .i64 b1, .int .i64 b2]
    rw [← hE]
    clear hE
    have C2 := B2.cell
    have C3 := B3.cell
    have HB := Lib.hid hW
    clear B2 B3 hW
    refine wp_loop_rounds 4 ?_
    rw [rounds_succ]
    go_wp2
    go_quiet (fail)
    go_wp2
    go_quiet (fail)
    go_wp2
    rw [rounds_succ]
    go_wp2
    go_quiet (fail)
    go_wp2
    go_ret
    exact ⟨rfl, by repeat (first | exact HB.out | refine below_drewN ?_ _)⟩
  · have h1 : decide (a1 < b1) = false := by simp; omega
    have h2 : decide (b1 < a1) = true := by simp [h]
    clear h
    go_enter Try.func30, Try.ntmps30
    go_wp2
    obtain ⟨W, B2, B3, hW, hE⟩ := four_blocks w 30 88 #[.int .i64 a0, .int .i64 a1, .int .i64 a2] #[.int .i64 a0, .int .i64 b1, .int .i64 b2] #[.int .i64 a0, .int .i64 a1, .int .i64 a2] #[.int .i64 a0, .int .i64 b1, .int .i64 b2]
    rw [← hE]
    clear hE
    have C2 := B2.cell
    have C3 := B3.cell
    have HB := Lib.hid hW
    clear B2 B3 hW
    refine wp_loop_rounds 4 ?_
    rw [rounds_succ]
    go_wp2
    go_quiet (fail)
    go_wp2
    go_quiet (fail)
    go_wp2
    rw [rounds_succ]
    go_wp2
    go_quiet (fail)
    go_wp2
    go_quiet (fail)
    go_wp2
    go_ret
    exact ⟨rfl, by repeat (first | exact HB.out | refine below_drewN ?_ _)⟩
  · have h1 : decide (a2 < b2) = true := by simp [h]
    clear h
    go_enter Try.func30, Try.ntmps30
    go_wp2
    obtain ⟨W, B2, B3, hW, hE⟩ := four_blocks w 30 88 #[.int .i64 a0, .int .i64 a1, .int .i64 a2] #[.int .i64 a0, .int .i64 a1, .int .i64 b2] #[.int .i64 a0, .int .i64 a1, .int .i64 a2] #[.int .i64 a0, .int .i64 a1, .int .i64 b2]
    rw [← hE]
    clear hE
    have C2 := B2.cell
    have C3 := B3.cell
    have HB := Lib.hid hW
    clear B2 B3 hW
    refine wp_loop_rounds 4 ?_
    rw [rounds_succ]
    go_wp2
    go_quiet (fail)
    go_wp2
    go_quiet (fail)
    go_wp2
    rw [rounds_succ]
    go_wp2
    go_quiet (fail)
    go_wp2
    go_quiet (fail)
    go_wp2
    rw [rounds_succ]
    go_wp2
    go_quiet (fail)
    go_wp2
    go_ret
    exact ⟨rfl, by repeat (first | exact HB.out | refine below_drewN ?_ _)⟩
  · have h1 : decide (a2 < b2) = false := by simp; omega
    have h2 : decide (b2 < a2) = true := by simp [h]
    clear h
    go_enter Try.func30, Try.ntmps30
    go_wp2
    obtain ⟨W, B2, B3, hW, hE⟩ := four_blocks w 30 88 #[.int .i64 a0, .int .i64 a1, .int .i64 a2] #[.int .i64 a0, .int .i64 a1, .int .i64 b2] #[.int .i64 a0, .int .i64 a1, .int .i64 a2] #[.int .i64 a0, .int .i64 a1, .int .i64 b2]
    rw [← hE]
    clear hE
    have C2 := B2.cell
    have C3 := B3.cell
    have HB := Lib.hid hW
    clear B2 B3 hW
    refine wp_loop_rounds 4 ?_
    rw [rounds_succ]
    go_wp2
    go_quiet (fail)
    go_wp2
    go_quiet (fail)
    go_wp2
    rw [rounds_succ]
    go_wp2
    go_quiet (fail)
    go_wp2
    go_quiet (fail)
    go_wp2
    rw [rounds_succ]
    go_wp2
    go_quiet (fail)
    go_wp2
    go_quiet (fail)
    go_wp2
    go_ret
    exact ⟨rfl, by repeat (first | exact HB.out | refine below_drewN ?_ _)⟩
  · skip
    go_enter Try.func30, Try.ntmps30
    go_wp2
    obtain ⟨W, B2, B3, hW, hE⟩ := four_blocks w 30 88 #[.int .i64 a0, .int .i64 a1, .int .i64 a2] #[.int .i64 a0, .int .i64 a1, .int .i64 a2] #[.int .i64 a0, .int .i64 a1, .int .i64 a2] #[.int .i64 a0, .int .i64 a1, .int .i64 a2]
    rw [← hE]
    clear hE
    have C2 := B2.cell
    have C3 := B3.cell
    have HB := Lib.hid hW
    clear B2 B3 hW
    refine wp_loop_rounds 4 ?_
    rw [rounds_succ]
    go_wp2
    go_quiet (fail)
    go_wp2
    go_quiet (fail)
    go_wp2
    rw [rounds_succ]
    go_wp2
    go_quiet (fail)
    go_wp2
    go_quiet (fail)
    go_wp2
    rw [rounds_succ]
    go_wp2
    go_quiet (fail)
    go_wp2
    go_quiet (fail)
    go_wp2
    rw [rounds_succ]
    go_wp2
    go_ret
    exact ⟨rfl, by repeat (first | exact HB.out | refine below_drewN ?_ _)⟩

end Go.Proofs.Ytfkooohnaodjmaa

namespace Go.Proofs.Ytfkooohnaodjmaa
open Go.RowKit Go.Sort

/-- May there be such a stamp? -/
def rightB (a b c : Int) : Bool := decide (0 ≤ a ∧ 0 ≤ b ∧ 0 ≤ c ∧ a ≤ 1099511627776 ∧ b ≤ 1099511627776 ∧ c ≤ 1099511627776 ∧ 0 < a + b + c)
def inB (n : Int) : Bool := decide (0 ≤ n ∧ n ≤ 1099511627776)

end Go.Proofs.Ytfkooohnaodjmaa
