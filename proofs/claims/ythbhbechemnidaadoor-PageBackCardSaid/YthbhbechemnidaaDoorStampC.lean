/- Contracts of the reference's Compare, Less, Max of stamps. No condition. Contracts of stamp.Right and of the reference's in and Right. No condition but that the numbers are those of 64 bits. -/
import Derived.Test.YthbhbechemnidaaDoorStampB
namespace Go.Proofs.YthbhbechemnidaaDoor
open Go.RowKit Go.Sort

theorem cmpI_lt {a b : Int} (h : a < b) : cmpI a b = -1 := by unfold cmpI; rw [if_pos h]
theorem cmpI_gt {a b : Int} (h : b < a) : cmpI a b = 1 := by unfold cmpI; rw [if_neg (by omega), if_pos h]
theorem cmpI_eq {a b : Int} (h : a = b) : cmpI a b = 0 := by unfold cmpI; rw [if_neg (by omega), if_neg (by omega)]
theorem cmpS_cases (a0 a1 a2 b0 b1 b2 : Int) :
    (a0 < b0 ∧ cmpS a0 a1 a2 b0 b1 b2 = -1) ∨ (b0 < a0 ∧ cmpS a0 a1 a2 b0 b1 b2 = 1) ∨ (a0 = b0 ∧ a1 < b1 ∧ cmpS a0 a1 a2 b0 b1 b2 = -1) ∨ (a0 = b0 ∧ b1 < a1 ∧ cmpS a0 a1 a2 b0 b1 b2 = 1) ∨
    (a0 = b0 ∧ a1 = b1 ∧ a2 < b2 ∧ cmpS a0 a1 a2 b0 b1 b2 = -1) ∨ (a0 = b0 ∧ a1 = b1 ∧ b2 < a2 ∧ cmpS a0 a1 a2 b0 b1 b2 = 1) ∨ (a0 = b0 ∧ a1 = b1 ∧ a2 = b2 ∧ cmpS a0 a1 a2 b0 b1 b2 = 0) := by
  rcases Int.lt_trichotomy a0 b0 with h | h | h
  · exact .inl ⟨h, by unfold cmpS or3; rw [cmpI_lt h]; rfl⟩
  · rcases Int.lt_trichotomy a1 b1 with k | k | k
    · exact .inr (.inr (.inl ⟨h, k, by unfold cmpS or3; rw [cmpI_eq h, cmpI_lt k]; rfl⟩))
    · rcases Int.lt_trichotomy a2 b2 with l | l | l
      · exact .inr (.inr (.inr (.inr (.inl ⟨h, k, l, by unfold cmpS or3; rw [cmpI_eq h, cmpI_eq k, cmpI_lt l]; rfl⟩))))
      · exact .inr (.inr (.inr (.inr (.inr (.inr ⟨h, k, l, by unfold cmpS or3; rw [cmpI_eq h, cmpI_eq k, cmpI_eq l]; rfl⟩)))))
      · exact .inr (.inr (.inr (.inr (.inr (.inl ⟨h, k, l, by unfold cmpS or3; rw [cmpI_eq h, cmpI_eq k, cmpI_gt l]; rfl⟩)))))
    · exact .inr (.inr (.inr (.inl ⟨h, k, by unfold cmpS or3; rw [cmpI_eq h, cmpI_gt k]; rfl⟩)))
  · exact .inr (.inl ⟨h, by unfold cmpS or3; rw [cmpI_gt h]; rfl⟩)

/-- Four new blocks. -/
theorem four_blocks (w : World) (t u : TypeId) (a b c d : Array Value) : ∃ W, Blk W (w.heap.size + 1 + 1) u c ∧ Blk W (w.heap.size + 1 + 1 + 1) u d ∧ Below w.heap.size w W ∧ W = (((w.alloc (.cells a t)).alloc (.cells b t)).alloc (.cells c u)).alloc (.cells d u) := by
  refine ⟨_, ?_, ?_, ((((Below.refl w.heap.size w).alloc (Nat.le_refl _) _).alloc (by simp) _).alloc (by simp; omega) _).alloc (by simp; omega) _, rfl⟩
  · have := (Blk.new ((w.alloc (.cells a t)).alloc (.cells b t)) u c).alloc (.cells d u)
    simpa using this
  · have := Blk.new (((w.alloc (.cells a t)).alloc (.cells b t)).alloc (.cells c u)) u d
    simpa using this

set_option maxRecDepth 100000 in
set_option maxHeartbeats 1000000 in
theorem ref04_Compare (a0 a1 a2 b0 b1 b2 : Int) (w : World) :
    Calls Tryd.prog 74 #[.agg #[.int .i64 a0, .int .i64 a1, .int .i64 a2], .agg #[.int .i64 b0, .int .i64 b1, .int .i64 b2]] w fun e w' => e = .returned (.int .i64 (cmpS a0 a1 a2 b0 b1 b2)) ∧ Below w.heap.size w w' := by
  have hcase := cmpS_cases a0 a1 a2 b0 b1 b2
  generalize cmpS a0 a1 a2 b0 b1 b2 = r at hcase ⊢
  rcases hcase with ⟨h, rfl⟩ | ⟨h, rfl⟩ | ⟨rfl, h, rfl⟩ | ⟨rfl, h, rfl⟩ | ⟨rfl, rfl, h, rfl⟩ | ⟨rfl, rfl, h, rfl⟩ | ⟨rfl, rfl, rfl, rfl⟩
  · have h1 : decide (a0 < b0) = true := by simp [h]
    clear h
    go_enter Tryd.func74, Tryd.ntmps74
    go_wp2
    obtain ⟨W, B2, B3, hW, hE⟩ := four_blocks w 32 120 #[.int .i64 a0, .int .i64 a1, .int .i64 a2] #[.int .i64 b0, .int .i64 b1, .int .i64 b2] #[.int .i64 a0, .int .i64 a1, .int .i64 a2] #[.int .i64 b0, .int .i64 b1, .int .i64 b2]
    rw [← hE]
    clear hE
    have C2 := B2.cell
    have C3 := B3.cell
    have HB := Lib.hid hW
    clear B2 B3 hW
    refine wp_loop_rounds 4 ?_
    rw [rounds_succ]
    go_wp2
    go_quiet (fail)
    go_wp2
    go_ret
    exact ⟨rfl, by repeat (first | exact HB.out | refine below_drewN ?_ _)⟩
  · have h1 : decide (a0 < b0) = false := by simp; omega
    have h2 : decide (b0 < a0) = true := by simp [h]
    clear h
    go_enter Tryd.func74, Tryd.ntmps74
    go_wp2
    obtain ⟨W, B2, B3, hW, hE⟩ := four_blocks w 32 120 #[.int .i64 a0, .int .i64 a1, .int .i64 a2] #[.int .i64 b0, .int .i64 b1, .int .i64 b2] #[.int .i64 a0, .int .i64 a1, .int .i64 a2] #[.int .i64 b0, .int .i64 b1, .int .i64 b2]
    rw [← hE]
    clear hE
    have C2 := B2.cell
    have C3 := B3.cell
    have HB := Lib.hid hW
    clear B2 B3 hW
    refine wp_loop_rounds 4 ?_
    rw [rounds_succ]
    go_wp2
    go_quiet (fail)
    go_wp2
    go_quiet (fail)
    go_wp2
    go_ret
    exact ⟨rfl, by repeat (first | exact HB.out | refine below_drewN ?_ _)⟩
  · have h1 : decide (a1 < b1) = true := by simp [h]
    clear h
    go_enter Tryd.func74, Tryd.ntmps74
    go_wp2
    obtain ⟨W, B2, B3, hW, hE⟩ := four_blocks w 32 120 #[.int .i64 a0, .int .i64 a1, .int .i64 a2] #[.int .i64 a0, .int .i64 b1, .int .i64 b2] #[.int .i64 a0, .int .i64 a1, .int .i64 a2] #[.int .i64 a0, .int .i64 b1, .int .i64 b2]
    rw [← hE]
    clear hE
    have C2 := B2.cell
    have C3 := B3.cell
    have HB := Lib.hid hW
    clear B2 B3 hW
    refine wp_loop_rounds 4 ?_
    rw [rounds_succ]
    go_wp2
    go_quiet (fail)
    go_wp2
    go_quiet (fail)
    go_wp2
    rw [rounds_succ]
    go_wp2
    go_quiet (fail)
    go_wp2
    go_ret
    exact ⟨rfl, by repeat (first | exact HB.out | refine below_drewN ?_ _)⟩
  · have h1 : decide (a1 < b1) = false := by simp; omega
    have h2 : decide (b1 < a1) = true := by simp [h]
    clear h
    go_enter Tryd.func74, Tryd.ntmps74
    go_wp2
    obtain ⟨W, B2, B3, hW, hE⟩ := four_blocks w 32 120 #[.int .i64 a0, .int .i64 a1, .int .i64 a2] #[.int .i64 a0, .int .i64 b1, .int .i64 b2] #[.int .i64 a0, .int .i64 a1, .int .i64 a2] #[.int .i64 a0, .int .i64 b1, .int .i64 b2]
    rw [← hE]
    clear hE
    have C2 := B2.cell
    have C3 := B3.cell
    have HB := Lib.hid hW
    clear B2 B3 hW
    refine wp_loop_rounds 4 ?_
    rw [rounds_succ]
    go_wp2
    go_quiet (fail)
    go_wp2
    go_quiet (fail)
    go_wp2
    rw [rounds_succ]
    go_wp2
    go_quiet (fail)
    go_wp2
    go_quiet (fail)
    go_wp2
    go_ret
    exact ⟨rfl, by repeat (first | exact HB.out | refine below_drewN ?_ _)⟩
  · have h1 : decide (a2 < b2) = true := by simp [h]
    clear h
    go_enter Tryd.func74, Tryd.ntmps74
    go_wp2
    obtain ⟨W, B2, B3, hW, hE⟩ := four_blocks w 32 120 #[.int .i64 a0, .int .i64 a1, .int .i64 a2] #[.int .i64 a0, .int .i64 a1, .int .i64 b2] #[.int .i64 a0, .int .i64 a1, .int .i64 a2] #[.int .i64 a0, .int .i64 a1, .int .i64 b2]
    rw [← hE]
    clear hE
    have C2 := B2.cell
    have C3 := B3.cell
    have HB := Lib.hid hW
    clear B2 B3 hW
    refine wp_loop_rounds 4 ?_
    rw [rounds_succ]
    go_wp2
    go_quiet (fail)
    go_wp2
    go_quiet (fail)
    go_wp2
    rw [rounds_succ]
    go_wp2
    go_quiet (fail)
    go_wp2
    go_quiet (fail)
    go_wp2
    rw [rounds_succ]
    go_wp2
    go_quiet (fail)
    go_wp2
    go_ret
    exact ⟨rfl, by repeat (first | exact HB.out | refine below_drewN ?_ _)⟩
  · have h1 : decide (a2 < b2) = false := by simp; omega
    have h2 : decide (b2 < a2) = true := by simp [h]
    clear h
    go_enter Tryd.func74, Tryd.ntmps74
    go_wp2
    obtain ⟨W, B2, B3, hW, hE⟩ := four_blocks w 32 120 #[.int .i64 a0, .int .i64 a1, .int .i64 a2] #[.int .i64 a0, .int .i64 a1, .int .i64 b2] #[.int .i64 a0, .int .i64 a1, .int .i64 a2] #[.int .i64 a0, .int .i64 a1, .int .i64 b2]
    rw [← hE]
    clear hE
    have C2 := B2.cell
    have C3 := B3.cell
    have HB := Lib.hid hW
    clear B2 B3 hW
    refine wp_loop_rounds 4 ?_
    rw [rounds_succ]
    go_wp2
    go_quiet (fail)
    go_wp2
    go_quiet (fail)
    go_wp2
    rw [rounds_succ]
    go_wp2
    go_quiet (fail)
    go_wp2
    go_quiet (fail)
    go_wp2
    rw [rounds_succ]
    go_wp2
    go_quiet (fail)
    go_wp2
    go_quiet (fail)
    go_wp2
    go_ret
    exact ⟨rfl, by repeat (first | exact HB.out | refine below_drewN ?_ _)⟩
  · skip
    go_enter Tryd.func74, Tryd.ntmps74
    go_wp2
    obtain ⟨W, B2, B3, hW, hE⟩ := four_blocks w 32 120 #[.int .i64 a0, .int .i64 a1, .int .i64 a2] #[.int .i64 a0, .int .i64 a1, .int .i64 a2] #[.int .i64 a0, .int .i64 a1, .int .i64 a2] #[.int .i64 a0, .int .i64 a1, .int .i64 a2]
    rw [← hE]
    clear hE
    have C2 := B2.cell
    have C3 := B3.cell
    have HB := Lib.hid hW
    clear B2 B3 hW
    refine wp_loop_rounds 4 ?_
    rw [rounds_succ]
    go_wp2
    go_quiet (fail)
    go_wp2
    go_quiet (fail)
    go_wp2
    rw [rounds_succ]
    go_wp2
    go_quiet (fail)
    go_wp2
    go_quiet (fail)
    go_wp2
    rw [rounds_succ]
    go_wp2
    go_quiet (fail)
    go_wp2
    go_quiet (fail)
    go_wp2
    rw [rounds_succ]
    go_wp2
    go_ret
    exact ⟨rfl, by repeat (first | exact HB.out | refine below_drewN ?_ _)⟩

set_option maxRecDepth 100000 in
set_option maxHeartbeats 400000 in
theorem ref04_Less (a0 a1 a2 b0 b1 b2 : Int) (w : World) :
    Calls Tryd.prog 100 #[.agg #[.int .i64 a0, .int .i64 a1, .int .i64 a2], .agg #[.int .i64 b0, .int .i64 b1, .int .i64 b2]] w fun e w' => e = .returned (.bool (decide (cmpS a0 a1 a2 b0 b1 b2 < 0))) ∧ Below w.heap.size w w' := by
  go_enter Tryd.func100, Tryd.ntmps100
  go_wp2_with fail
  refine (ref04_Compare a0 a1 a2 b0 b1 b2 _).mono ?_
  rintro e w1 ⟨rfl, hb⟩
  have HB := Lib.hid (Below.trans (((Below.refl w.heap.size w).alloc (Nat.le_refl _) (.cells #[.int .i64 a0, .int .i64 a1, .int .i64 a2] 32)).alloc (by simp) (.cells #[.int .i64 b0, .int .i64 b1, .int .i64 b2] 32)) (hb.mono (by simp; omega)))
  clear hb
  go_wp2_with fail
  go_ret
  exact ⟨rfl, HB.out⟩

end Go.Proofs.YthbhbechemnidaaDoor

namespace Go.Proofs.YthbhbechemnidaaDoor
open Go.RowKit Go.Sort

/-- May there be such a stamp? -/
def rightB (a b c : Int) : Bool := decide (0 ≤ a ∧ 0 ≤ b ∧ 0 ≤ c ∧ a ≤ 1099511627776 ∧ b ≤ 1099511627776 ∧ c ≤ 1099511627776 ∧ 0 < a + b + c)
def inB (n : Int) : Bool := decide (0 ≤ n ∧ n ≤ 1099511627776)

theorem ref04_in (n : Int) (w : World) : Calls Tryd.prog 99 #[.int .i64 n] w fun e w' => e = .returned (.bool (inB n)) ∧ w = w' := by
  unfold inB
  have hcase : (decide (0 ≤ n) = true ∧ 0 ≤ n) ∨ (decide (0 ≤ n) = false ∧ ¬ 0 ≤ n) := by simp; omega
  rcases hcase with ⟨h1, h2⟩ | ⟨h1, h2⟩
  all_goals
    go_enter Tryd.func99, Tryd.ntmps99
    go_wp2
    go_ret
    exact ⟨ret_bool' (by simp [h2]), rfl⟩

set_option maxRecDepth 100000 in
set_option maxHeartbeats 400000 in
theorem ref04_Right (a b c : Int) (w : World) :
    Calls Tryd.prog 56 #[.agg #[.int .i64 a, .int .i64 b, .int .i64 c]] w fun e w' => e = .returned (.bool (rightB a b c)) ∧ Below w.heap.size w w' := by
  have hcase : (inB a = false ∧ rightB a b c = false) ∨ (inB a = true ∧ inB b = false ∧ rightB a b c = false) ∨ (inB a = true ∧ inB b = true ∧ inB c = false ∧ rightB a b c = false) ∨
      (inB a = true ∧ inB b = true ∧ inB c = true ∧ IntKind.i64.wrap (a + b) = a + b ∧ IntKind.i64.wrap (a + b + c) = a + b + c ∧ rightB a b c = decide (0 < a + b + c)) := by
    simp only [inB, rightB, decide_eq_true_eq, decide_eq_false_iff_not, decide_eq_decide, IntKind.wrap_i64]
    omega
  have hB : Below w.heap.size w (w.alloc (.cells #[.int .i64 a, .int .i64 b, .int .i64 c] 32)) := (Below.refl _ _).alloc (Nat.le_refl _) _
  rcases hcase with ⟨h1, hr⟩ | ⟨h1, h2, hr⟩ | ⟨h1, h2, h3, hr⟩ | ⟨h1, h2, h3, h4, h5, hr⟩
  all_goals
    rw [hr]
    clear hr
    have HB := Lib.hid hB
    clear hB
    go_enter Tryd.func56, Tryd.ntmps56
    go_wp2_with fail
    refine (ref04_in a _).mono ?_
    rintro e w1 ⟨rfl, rfl⟩
    rw [h1]
    go_wp2_with fail
    try
      refine (ref04_in b _).mono ?_
      rintro e w1 ⟨rfl, rfl⟩
      rw [h2]
      go_wp2_with fail
    try
      refine (ref04_in c _).mono ?_
      rintro e w1 ⟨rfl, rfl⟩
      rw [h3]
      go_wp2_with fail
    go_ret
    exact ⟨rfl, HB.out⟩

set_option maxRecDepth 100000 in
set_option maxHeartbeats 400000 in
theorem stamp_Right (a b c : Int) (w : World) :
    Calls Tryd.prog 78 #[.agg #[.int .i64 a, .int .i64 b, .int .i64 c]] w fun e w' => e = .returned (.bool (rightB a b c)) ∧ Below w.heap.size w w' := by
  have hcase : (decide (0 ≤ a) = false ∧ rightB a b c = false) ∨ (decide (0 ≤ a) = true ∧ decide (0 ≤ b) = false ∧ rightB a b c = false) ∨
      (decide (0 ≤ a) = true ∧ decide (0 ≤ b) = true ∧ decide (0 ≤ c) = false ∧ rightB a b c = false) ∨
      (decide (0 ≤ a) = true ∧ decide (0 ≤ b) = true ∧ decide (0 ≤ c) = true ∧ decide (a ≤ 1099511627776) = false ∧ rightB a b c = false) ∨
      (decide (0 ≤ a) = true ∧ decide (0 ≤ b) = true ∧ decide (0 ≤ c) = true ∧ decide (a ≤ 1099511627776) = true ∧ decide (b ≤ 1099511627776) = false ∧ rightB a b c = false) ∨
      (decide (0 ≤ a) = true ∧ decide (0 ≤ b) = true ∧ decide (0 ≤ c) = true ∧ decide (a ≤ 1099511627776) = true ∧ decide (b ≤ 1099511627776) = true ∧ decide (c ≤ 1099511627776) = false ∧ rightB a b c = false) ∨
      (decide (0 ≤ a) = true ∧ decide (0 ≤ b) = true ∧ decide (0 ≤ c) = true ∧ decide (a ≤ 1099511627776) = true ∧ decide (b ≤ 1099511627776) = true ∧ decide (c ≤ 1099511627776) = true ∧ rightB a b c = !(decide (a = 0) && (decide (b = 0) && decide (c = 0)))) := by
    have e : (!(decide (a = 0) && (decide (b = 0) && decide (c = 0)))) = decide (¬ (a = 0 ∧ b = 0 ∧ c = 0)) := by simp
    rw [e]
    simp only [rightB, decide_eq_true_eq, decide_eq_false_iff_not, decide_eq_decide]
    omega
  have hB : Below w.heap.size w (w.alloc (.cells #[.int .i64 a, .int .i64 b, .int .i64 c] 32)) := (Below.refl _ _).alloc (Nat.le_refl _) _
  rcases hcase with ⟨h1, hr⟩ | ⟨h1, h2, hr⟩ | ⟨h1, h2, h3, hr⟩ | ⟨h1, h2, h3, h4, hr⟩ | ⟨h1, h2, h3, h4, h5, hr⟩ | ⟨h1, h2, h3, h4, h5, h6, hr⟩ | ⟨h1, h2, h3, h4, h5, h6, hr⟩
  all_goals
    rw [hr]
    clear hr
    have HB := Lib.hid hB
    clear hB
    go_enter Tryd.func78, Tryd.ntmps78
    go_wp2_with fail
    all_goals
      go_ret
      first
      | exact ⟨rfl, HB.out⟩
      | exact ⟨ret_bool' (by simp [*]), (Below.refl _ _).alloc (Nat.le_refl _) _⟩
end Go.Proofs.YthbhbechemnidaaDoor
