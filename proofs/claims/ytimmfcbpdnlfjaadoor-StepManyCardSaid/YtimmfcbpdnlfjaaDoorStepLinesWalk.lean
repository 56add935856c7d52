/- The walk of the law StepLines. -/
import Derived.Test.YtimmfcbpdnlfjaaDoorStpK
import Derived.Test.YtimmfcbpdnlfjaaDoorStpR
namespace Go.Proofs.YtimmfcbpdnlfjaaDoor
open Go.RowKit Go.Sort
set_option linter.unusedVariables false
set_option linter.unusedSimpArgs false

def tick15 : Stp := { bareK 10 with n := 1, ticks := 5 }
theorem line_tick : lineP tick15 = [116, 105, 99, 107, 32, 49, 32, 53] := by
  have h1 : numW 1 = [49] := by
    rw [show (1 : Int) = ((1 : Nat) : Int) from rfl, numW_dec 1 (by omega), dec_lo 1 (by omega)]
    rfl
  have h5 : numW 5 = [53] := by
    rw [show (5 : Int) = ((5 : Nat) : Int) from rfl, numW_dec 5 (by omega), dec_lo 5 (by omega)]
    rfl
  have hb : bareB tick15 [.n, .t] = true := by
    unfold bareB tick15 bareK
    rw [toList_nil]
    rfl
  have hf : formP tick15.kind = ([116, 105, 99, 107], [.n, .t]) := rfl
  have ht1 : tellP tick15 .n = [49] := h1
  have ht2 : tellP tick15 .t = [53] := h5
  unfold lineP
  rw [hf]
  dsimp only
  rw [if_neg (by rw [hb]; simp), tells_some tick15 [.n, .t] (by simp [ht1, ht2])]
  simp [joinF, ht1, ht2]
set_option maxRecDepth 100000 in
theorem law40_alive (w : World) (hT : Tabs w) : Calls Tryd.prog 11 #[] w fun e w' => e = .returned (.bool true) ∧ Below w.heap.size w w' := by
  have CL := Lib.hid (step_Line tick15 w (by refine ⟨?_, ?_, ?_⟩ <;> (show (0 : Nat) ≤ _; omega)) hT)
  rw [line_tick] at CL
  obtain ⟨y, hy⟩ : ∃ y : ByteArray, (⟨[116, 105, 99, 107, 32, 49, 32, 53].toArray⟩ : ByteArray) = y := ⟨_, rfl⟩
  rw [hy] at CL
  have hq : (y.toList == [116, 105, 99, 107, 32, 49, 32, 53]) = true := by rw [← hy, Go.ByteArray.toList_eq]; rfl
  clear hy
  unfold stpC tick15 bareK at CL
  go_enter Tryd.func11, Tryd.ntmps11
  go_wp2_with fail
  refine CL.out.mono ?_
  rintro e w1 ⟨rfl, b1⟩
  go_wp2_with fail
  go_ret
  exact ⟨rfl, b1⟩

set_option maxRecDepth 100000 in
set_option maxHeartbeats 4000000 in
theorem step_lines_walk (s : Stp) (x : ByteArray) (w : World) (hT : Tabs w) :
    Calls Tryd.prog 3 #[.agg (stpC s), .string x] w fun e w' => e = .returned (.bool true) ∧ Below w.heap.size w w' := by
  obtain ⟨W, hW⟩ : ∃ W, w.alloc (.cells (stpC s) 26) = W := ⟨_, rfl⟩
  have bW : Below w.heap.size w W := by rw [← hW]; exact (Below.refl _ _).alloc (Nat.le_refl _) _
  have BS : Blk W w.heap.size 26 (stpC s) := by rw [← hW]; exact Blk.new _ _ _
  have HT := Lib.hid (hT.below bW)
  clear hT
  have HW := Lib.hid hW
  clear hW
  have c0 : W.cell? ⟨w.heap.size, 0, none⟩ = some (.int .i64 s.kind) := BS.cell 0
  have c1 : W.cell? ⟨w.heap.size, 1, none⟩ = some (.int .i64 s.n) := BS.cell 1
  have c2 : W.cell? ⟨w.heap.size, 2, none⟩ = some (.int .i64 s.ticks) := BS.cell 2
  have c3 : W.cell? ⟨w.heap.size, 3, none⟩ = some (.int .i64 s.tab) := BS.cell 3
  have c4 : W.cell? ⟨w.heap.size, 4, none⟩ = some (.int .i64 s.lev) := BS.cell 4
  have c5 : W.cell? ⟨w.heap.size, 5, none⟩ = some (.string s.key) := BS.cell 5
  have c6 : W.cell? ⟨w.heap.size, 6, none⟩ = some (.string s.en) := BS.cell 6
  have c7 : W.cell? ⟨w.heap.size, 7, none⟩ = some (.string s.val) := BS.cell 7
  have c8 : W.cell? ⟨w.heap.size, 8, none⟩ = some (.int .i64 s.ctx) := BS.cell 8
  unfold stpC at HW ⊢
  go_enter Tryd.func3, Tryd.ntmps3
  go_upto_region 1 with fail
  rw [HW.out]
  clear HW
  by_cases h1 : 500 < s.key.size
  · have d1 : decide ((s.key.size : Int) > 500) = true := by simp; omega
    go_wp2_with fail
    go_ret
    exact ⟨rfl, bW⟩
  have d1 : decide ((s.key.size : Int) > 500) = false := by simp; omega
  by_cases h2 : 500 < s.en.size
  · have d2 : decide ((s.en.size : Int) > 500) = true := by simp; omega
    go_wp2_with fail
    go_ret
    exact ⟨rfl, bW⟩
  have d2 : decide ((s.en.size : Int) > 500) = false := by simp; omega
  by_cases h3 : 500 < s.val.size
  · have d3 : decide ((s.val.size : Int) > 500) = true := by simp; omega
    go_wp2_with fail
    go_ret
    exact ⟨rfl, bW⟩
  have d3 : decide ((s.val.size : Int) > 500) = false := by simp; omega
  by_cases h4 : 2000 < x.size
  · have d4 : decide ((x.size : Int) > 2000) = true := by simp; omega
    go_wp2_with fail
    go_ret
    exact ⟨rfl, bW⟩
  have d4 : decide ((x.size : Int) > 2000) = false := by simp; omega
  have hz : s.key.size ≤ 1000000000 ∧ s.en.size ≤ 1000000000 ∧ s.val.size ≤ 1000000000 := ⟨by omega, by omega, by omega⟩
  have C1 := Lib.hid (step_Read x W (by omega) HT.out)
  have C2 := Lib.hid (fun (w' : World) (h : Tabs w') => ref40_Read x w' (by omega) h)
  obtain ⟨L, hL⟩ : ∃ L, bl x = L := ⟨_, rfl⟩
  simp only [hL] at C1 C2
  clear hL
  clear h1 h2 h3 h4
  go_wp2_with fail
  refine C1.out.mono ?_
  clear C1
  rintro e w1 ⟨rfl, b1⟩
  replace BS := BS.below b1 BS.lt
  replace HT := Lib.hid (HT.out.below b1)
  replace bW := bW.trans (b1.mono bW.size)
  clear b1 c0 c1 c2 c3 c4 c5 c6 c7 c8

  cases hr : readP L with
  | none =>
    obtain ⟨W1, hW1⟩ : ∃ W1, w1.alloc (.cells (stpC stpZ) 26) = W1 := ⟨_, rfl⟩
    have a1 : Below w1.heap.size w1 W1 := by rw [← hW1]; exact (Below.refl _ _).alloc (Nat.le_refl _) _
    have B1 : Blk W1 w1.heap.size 26 (stpC stpZ) := by rw [← hW1]; exact Blk.new _ _ _
    have HW1 := Lib.hid hW1
    clear hW1
    have hNE : ∀ w, (binOp .neq 26 (.agg (stpC stpZ)) (.agg (stpC stpZ))).run Tryd.prog w = .ok (.bool false) w := fun w => by
      rw [step_neq, stpEq_self]
      rfl
    have e2 : refRV L = .tuple #[.agg (stpC stpZ), .bool false] := by unfold refRV; rw [hr]
    have e1 : readV L = .tuple #[.agg (stpC stpZ), .int .i64 320] := by unfold readV; rw [hr]
    simp only [e2] at C2
    rw [e1]
    clear e1 e2 hr
    unfold stpC stpZ bareK at C2 HW1 hNE ⊢
    go_upto_region 4 with fail
    rw [HW1.out]
    clear HW1
    replace BS := BS.below a1 BS.lt
    replace HT := Lib.hid (HT.out.below a1)
    replace bW := bW.trans (a1.mono bW.size)
    go_wp2_with fail
    refine (C2.out _ HT.out).mono ?_
    clear C2
    rintro e w2 ⟨rfl, b2⟩
    replace BS := BS.below b2 BS.lt
    replace B1 := B1.below b2 B1.lt
    replace HT := Lib.hid (HT.out.below b2)
    replace bW := bW.trans (b2.mono bW.size)
    clear a1 b2
    obtain ⟨W2, hW2⟩ : ∃ W2, w2.alloc (.cells (stpC stpZ) 26) = W2 := ⟨_, rfl⟩
    have a2 : Below w2.heap.size w2 W2 := by rw [← hW2]; exact (Below.refl _ _).alloc (Nat.le_refl _) _
    have B2 : Blk W2 w2.heap.size 26 (stpC stpZ) := by rw [← hW2]; exact Blk.new _ _ _
    have HW2 := Lib.hid hW2
    clear hW2
    unfold stpC stpZ bareK at HW2
    go_upto_region 5 with fail
    rw [HW2.out]
    clear HW2
    replace BS := BS.below a2 BS.lt
    replace B1 := B1.below a2 B1.lt
    replace HT := Lib.hid (HT.out.below a2)
    replace bW := bW.trans (a2.mono bW.size)
    clear a2
    have g0 : W2.cell? ⟨w1.heap.size, 0, none⟩ = some (.int .i64 0) := B1.cell 0
    have g1 : W2.cell? ⟨w1.heap.size, 1, none⟩ = some (.int .i64 0) := B1.cell 1
    have g2 : W2.cell? ⟨w1.heap.size, 2, none⟩ = some (.int .i64 0) := B1.cell 2
    have g3 : W2.cell? ⟨w1.heap.size, 3, none⟩ = some (.int .i64 0) := B1.cell 3
    have g4 : W2.cell? ⟨w1.heap.size, 4, none⟩ = some (.int .i64 0) := B1.cell 4
    have g5 : W2.cell? ⟨w1.heap.size, 5, none⟩ = some (.string ⟨#[]⟩) := B1.cell 5
    have g6 : W2.cell? ⟨w1.heap.size, 6, none⟩ = some (.string ⟨#[]⟩) := B1.cell 6
    have g7 : W2.cell? ⟨w1.heap.size, 7, none⟩ = some (.string ⟨#[]⟩) := B1.cell 7
    have g8 : W2.cell? ⟨w1.heap.size, 8, none⟩ = some (.int .i64 0) := B1.cell 8
    have k0 : W2.cell? ⟨w2.heap.size, 0, none⟩ = some (.int .i64 0) := B2.cell 0
    have k1 : W2.cell? ⟨w2.heap.size, 1, none⟩ = some (.int .i64 0) := B2.cell 1
    have k2 : W2.cell? ⟨w2.heap.size, 2, none⟩ = some (.int .i64 0) := B2.cell 2
    have k3 : W2.cell? ⟨w2.heap.size, 3, none⟩ = some (.int .i64 0) := B2.cell 3
    have k4 : W2.cell? ⟨w2.heap.size, 4, none⟩ = some (.int .i64 0) := B2.cell 4
    have k5 : W2.cell? ⟨w2.heap.size, 5, none⟩ = some (.string ⟨#[]⟩) := B2.cell 5
    have k6 : W2.cell? ⟨w2.heap.size, 6, none⟩ = some (.string ⟨#[]⟩) := B2.cell 6
    have k7 : W2.cell? ⟨w2.heap.size, 7, none⟩ = some (.string ⟨#[]⟩) := B2.cell 7
    have k8 : W2.cell? ⟨w2.heap.size, 8, none⟩ = some (.int .i64 0) := B2.cell 8
    go_upto_region 7 with fail
    clear g0 k0 g1 k1 g2 k2 g3 k3 g4 k4 g5 k5 g6 k6 g7 k7 g8 k8 hNE B1 B2
    obtain ⟨y, hy⟩ : ∃ y : ByteArray, (⟨(lineP s).toArray⟩ : ByteArray) = y := ⟨_, rfl⟩
    have hsr := BS.lt
    have c0 : ∀ d os i, (grow (redrawn W2 d) os).cell? ⟨w.heap.size, i, none⟩ = (stpC s)[i]? := fun d os i => (BS.below (below_regrown W2 d os) hsr).cell i
    have k1 := fun d os => Calls.regrown_of (step_Line s (grow (redrawn W2 d) os) hz (HT.out.below (below_regrown W2 d os)))
    have k2 := fun d os => Calls.regrown_of (ref40_Line s (grow (redrawn W2 d) os) hz (HT.out.below (below_regrown W2 d os)))
    have k3 := fun d os => Calls.regrown_of (law40_alive (grow (redrawn W2 d) os) (HT.out.below (below_regrown W2 d os)))
    simp only [hy] at k1 k2
    clear hy
    unfold stpC at k1 k2 c0
    refine wp_region_quiet_below (by kernel_rfl) (by kernel_rfl) ?_
    repeat (go_big_quiet_step (first | with_reducible exact k1 _ _ | with_reducible exact k2 _ _ | with_reducible exact k3 _ _))
    refine wpQuiet_nil ?_
    intro _ hw'
    obtain ⟨⟨dq, osq⟩, hw''⟩ := hw'
    subst hw''
    have bq := below_regrown W2 dq osq
    go_wp2_with fail
    go_ret
    exact ⟨rfl, bW.trans (bq.mono bW.size)⟩
  | some t =>
    obtain ⟨W1, hW1⟩ : ∃ W1, w1.alloc (.cells (stpC t) 26) = W1 := ⟨_, rfl⟩
    have a1 : Below w1.heap.size w1 W1 := by rw [← hW1]; exact (Below.refl _ _).alloc (Nat.le_refl _) _
    have B1 : Blk W1 w1.heap.size 26 (stpC t) := by rw [← hW1]; exact Blk.new _ _ _
    have HW1 := Lib.hid hW1
    clear hW1
    have hNE : ∀ w, (binOp .neq 26 (.agg (stpC t)) (.agg (stpC t))).run Tryd.prog w = .ok (.bool false) w := fun w => by
      rw [step_neq, stpEq_self]
      rfl
    have e2 : refRV L = .tuple #[.agg (stpC t), .bool true] := by unfold refRV; rw [hr]
    have e1 : readV L = .tuple #[.agg (stpC t), .int .i64 0] := by unfold readV; rw [hr]
    simp only [e2] at C2
    rw [e1]
    clear e1 e2 hr
    unfold stpC at C2 HW1 hNE ⊢
    go_upto_region 4 with fail
    rw [HW1.out]
    clear HW1
    replace BS := BS.below a1 BS.lt
    replace HT := Lib.hid (HT.out.below a1)
    replace bW := bW.trans (a1.mono bW.size)
    go_wp2_with fail
    refine (C2.out _ HT.out).mono ?_
    clear C2
    rintro e w2 ⟨rfl, b2⟩
    replace BS := BS.below b2 BS.lt
    replace B1 := B1.below b2 B1.lt
    replace HT := Lib.hid (HT.out.below b2)
    replace bW := bW.trans (b2.mono bW.size)
    clear a1 b2
    obtain ⟨W2, hW2⟩ : ∃ W2, w2.alloc (.cells (stpC t) 26) = W2 := ⟨_, rfl⟩
    have a2 : Below w2.heap.size w2 W2 := by rw [← hW2]; exact (Below.refl _ _).alloc (Nat.le_refl _) _
    have B2 : Blk W2 w2.heap.size 26 (stpC t) := by rw [← hW2]; exact Blk.new _ _ _
    have HW2 := Lib.hid hW2
    clear hW2
    unfold stpC at HW2
    go_upto_region 5 with fail
    rw [HW2.out]
    clear HW2
    replace BS := BS.below a2 BS.lt
    replace B1 := B1.below a2 B1.lt
    replace HT := Lib.hid (HT.out.below a2)
    replace bW := bW.trans (a2.mono bW.size)
    clear a2
    have g0 : W2.cell? ⟨w1.heap.size, 0, none⟩ = some (.int .i64 t.kind) := B1.cell 0
    have g1 : W2.cell? ⟨w1.heap.size, 1, none⟩ = some (.int .i64 t.n) := B1.cell 1
    have g2 : W2.cell? ⟨w1.heap.size, 2, none⟩ = some (.int .i64 t.ticks) := B1.cell 2
    have g3 : W2.cell? ⟨w1.heap.size, 3, none⟩ = some (.int .i64 t.tab) := B1.cell 3
    have g4 : W2.cell? ⟨w1.heap.size, 4, none⟩ = some (.int .i64 t.lev) := B1.cell 4
    have g5 : W2.cell? ⟨w1.heap.size, 5, none⟩ = some (.string t.key) := B1.cell 5
    have g6 : W2.cell? ⟨w1.heap.size, 6, none⟩ = some (.string t.en) := B1.cell 6
    have g7 : W2.cell? ⟨w1.heap.size, 7, none⟩ = some (.string t.val) := B1.cell 7
    have g8 : W2.cell? ⟨w1.heap.size, 8, none⟩ = some (.int .i64 t.ctx) := B1.cell 8
    have k0 : W2.cell? ⟨w2.heap.size, 0, none⟩ = some (.int .i64 t.kind) := B2.cell 0
    have k1 : W2.cell? ⟨w2.heap.size, 1, none⟩ = some (.int .i64 t.n) := B2.cell 1
    have k2 : W2.cell? ⟨w2.heap.size, 2, none⟩ = some (.int .i64 t.ticks) := B2.cell 2
    have k3 : W2.cell? ⟨w2.heap.size, 3, none⟩ = some (.int .i64 t.tab) := B2.cell 3
    have k4 : W2.cell? ⟨w2.heap.size, 4, none⟩ = some (.int .i64 t.lev) := B2.cell 4
    have k5 : W2.cell? ⟨w2.heap.size, 5, none⟩ = some (.string t.key) := B2.cell 5
    have k6 : W2.cell? ⟨w2.heap.size, 6, none⟩ = some (.string t.en) := B2.cell 6
    have k7 : W2.cell? ⟨w2.heap.size, 7, none⟩ = some (.string t.val) := B2.cell 7
    have k8 : W2.cell? ⟨w2.heap.size, 8, none⟩ = some (.int .i64 t.ctx) := B2.cell 8
    go_upto_region 7 with fail
    clear g0 k0 g1 k1 g2 k2 g3 k3 g4 k4 g5 k5 g6 k6 g7 k7 g8 k8 hNE B1 B2
    obtain ⟨y, hy⟩ : ∃ y : ByteArray, (⟨(lineP s).toArray⟩ : ByteArray) = y := ⟨_, rfl⟩
    have hsr := BS.lt
    have c0 : ∀ d os i, (grow (redrawn W2 d) os).cell? ⟨w.heap.size, i, none⟩ = (stpC s)[i]? := fun d os i => (BS.below (below_regrown W2 d os) hsr).cell i
    have k1 := fun d os => Calls.regrown_of (step_Line s (grow (redrawn W2 d) os) hz (HT.out.below (below_regrown W2 d os)))
    have k2 := fun d os => Calls.regrown_of (ref40_Line s (grow (redrawn W2 d) os) hz (HT.out.below (below_regrown W2 d os)))
    have k3 := fun d os => Calls.regrown_of (law40_alive (grow (redrawn W2 d) os) (HT.out.below (below_regrown W2 d os)))
    simp only [hy] at k1 k2
    clear hy
    unfold stpC at k1 k2 c0
    refine wp_region_quiet_below (by kernel_rfl) (by kernel_rfl) ?_
    repeat (go_big_quiet_step (first | with_reducible exact k1 _ _ | with_reducible exact k2 _ _ | with_reducible exact k3 _ _))
    refine wpQuiet_nil ?_
    intro _ hw'
    obtain ⟨⟨dq, osq⟩, hw''⟩ := hw'
    subst hw''
    have bq := below_regrown W2 dq osq
    go_wp2_with fail
    go_ret
    exact ⟨rfl, bW.trans (bq.mono bW.size)⟩
theorem step_lines_row (w : World) (hT : Tabs w) (s : Stp) (_ : StpW s) (x : ByteArray) (_ : x.size ≤ maxLen) :
    Calls Tryd.prog 3 #[.agg (stpC s), .string x] w fun e w' => e = .returned (.bool true) ∧ Below w.heap.size w w' := step_lines_walk s x w hT
end Go.Proofs.YtimmfcbpdnlfjaaDoor
