/- The walk of the law ConfTurns in some cases: it returns true, and nothing that was there ahead of the call has turned. -/
import Derived.Test.YtnaaknkknhediaaConfTx
import Derived.Deep.RegionHeld3
namespace Go.Proofs.Ytnaaknkknhediaa
open Go.RowKit Go.Sort
attribute [local go_sem] World.cell?_alloc_some
set_option maxRecDepth 100000 in
set_option maxHeartbeats 4000000 in
theorem turns_inlo2 (e : Int) (o0 o1 o3 o4 : Bool) (j0 j1 j2 j3 j4 : Int) (w : World) (he0 : -9223372036854775808 ≤ e) (he : e < 1099511627776) : Calls Try.prog 5 #[.agg #[.int .i64 (e), .bool o0, .bool o1, .bool false, .bool o3, .bool o4, .int .i64 j0, .int .i64 j1, .int .i64 j2, .int .i64 j3, .int .i64 j4], .int .i64 2] w fun x w' => x = .returned (.bool true) ∧ Below w.heap.size w w' := by
  go_enter Try.func5, Try.ntmps5
  go_wp2
  generalize hW : w.alloc (.cells #[.int .i64 (e), .bool o0, .bool o1, .bool false, .bool o3, .bool o4, .int .i64 j0, .int .i64 j1, .int .i64 j2, .int .i64 j3, .int .i64 j4] 36) = W
  have b0 : Blk W w.heap.size 36 #[.int .i64 (e), .bool o0, .bool o1, .bool false, .bool o3, .bool o4, .int .i64 j0, .int .i64 j1, .int .i64 j2, .int .i64 j3, .int .i64 j4] := by rw [← hW]; exact Blk.new _ _ _
  have hB : Below w.heap.size w W := by rw [← hW]; exact (Below.refl _ _).alloc (Nat.le_refl _) _
  have hs := b0.lt
  clear hW
  have k0 : ∀ i d os, (grow (redrawn W d) os).cell? ⟨w.heap.size, i, none⟩ = (#[.int .i64 (e), .bool o0, .bool o1, .bool false, .bool o3, .bool o4, .int .i64 j0, .int .i64 j1, .int .i64 j2, .int .i64 j3, .int .i64 j4] : Array Value)[i]? := fun i d os => ((below_regrown W d os).cell (p := ⟨w.heap.size, i, none⟩) hs).trans (b0.cell i)
  have q0 := b0.cell
  have cR : ∀ d os, Calls Try.prog 22 _ (grow (redrawn W d) os) _ := fun d os => Calls.regrown_of (conf_Right e o0 o1 false o3 o4 j0 j1 j2 j3 j4 _)
  have cr : ∀ d os, Calls Try.prog 23 _ (grow (redrawn W d) os) _ := fun d os => Calls.regrown_of (law21_right e o0 o1 false o3 o4 j0 j1 j2 j3 j4 _)
  have cI : ∀ d os, Calls Try.prog 24 _ (grow (redrawn W d) os) _ := fun d os => Calls.regrown_of (conf_Is e o0 o1 false o3 o4 j0 j1 j2 j3 j4 2 _)
  have cA : ∀ d os, Calls Try.prog 25 _ (grow (redrawn W d) os) _ := fun d os => Calls.regrown_of (conf_Always e o0 o1 false o3 o4 j0 j1 j2 j3 j4 2 _)
  have hO : cOut o0 o1 false o3 o4 2 = false := rfl
  have hJ : cJoin j0 j1 j2 j3 j4 2 = j2 := rfl
  have E1 := fun w a0 a1 a2 a3 a4 b0 b1 b2 b3 b4 => run_equalIn_five_bool (P := Try.prog) w 9997 33 4 Try.underlying33 Try.underlying4 (fun _ => by kernel_rfl) (fun _ => by kernel_rfl) a0 a1 a2 a3 a4 b0 b1 b2 b3 b4
  have E2 := fun w a0 a1 a2 a3 a4 b0 b1 b2 b3 b4 => run_equalIn_five_int (P := Try.prog) w 9997 34 3 Try.underlying34 Try.underlying3 (fun _ => by kernel_rfl) (fun _ => by kernel_rfl) a0 a1 a2 a3 a4 b0 b1 b2 b3 b4
  simp only [Nat.reduceAdd] at E1 E2
  refine wp_region_quiet_below (by kernel_rfl) (by kernel_rfl) ?_
  repeat (go_big_quiet_step (first | exact cR _ _ | exact cr _ _ | exact cI _ _ | exact cA _ _))
  refine wpQuiet_nil ?_
  intro _ hw'
  obtain ⟨⟨dq, osq⟩, hw''⟩ := hw'
  subst hw''
  generalize hW2 : grow (redrawn W dq) osq = W2
  have hB2 : Below w.heap.size w W2 := by rw [← hW2]; exact below_regrown_of hB hB.size _ _
  have b2 : Blk W2 w.heap.size 36 #[.int .i64 (e), .bool o0, .bool o1, .bool false, .bool o3, .bool o4, .int .i64 j0, .int .i64 j1, .int .i64 j2, .int .i64 j3, .int .i64 j4] := by rw [← hW2]; exact b0.below (below_regrown W dq osq) hs
  have hs2 := b2.lt
  have q2 := b2.cell
  clear hW2 cR cr cI cA hB k0 q0 b0 hs
  go_wp2_with (first
    | (go_at_call 26; refine (exclude_yes2 e o0 o1 o3 o4 j0 j1 j2 j3 j4 _ he0 he).mono ?_; rintro e w3 ⟨rfl, hb3⟩; replace hB2 := hB2.trans (hb3.mono (Nat.le_of_lt hs2)); have b3 := b2.below hb3 hs2; have hs3 := b3.lt; have q3 := b3.cell; clear hb3 b2 q2 hs2)
    | (go_at_call 27; refine (include_in2 e o0 o1 o3 o4 j0 j1 j2 j3 j4 _).mono ?_; rintro e w4 ⟨rfl, hb4⟩; have b4 := (((b3.alloc _).alloc _).below hb4 (by simp only [World.size_alloc]; omega)); have hs4 := b4.lt; have q4 := b4.cell; have b5 := (((Blk.new w3 36 #[.int .i64 (e + 1), .bool o0, .bool o1, .bool true, .bool o3, .bool o4, .int .i64 j0, .int .i64 j1, .int .i64 j2, .int .i64 j3, .int .i64 j4]).alloc _).below hb4 (by simp only [World.size_alloc]; omega)); have q5 := b5.cell; have b6 := ((Blk.new (w3.alloc _) 36 #[.int .i64 (e + 1), .bool o0, .bool o1, .bool true, .bool o3, .bool o4, .int .i64 j0, .int .i64 j1, .int .i64 j2, .int .i64 j3, .int .i64 j4]).below hb4 (by simp only [World.size_alloc]; omega)); have q6 := b6.cell; simp only [World.size_alloc] at q6; replace hB2 := ((hB2.alloc (Nat.le_of_lt hs3) _).alloc (by simp only [World.size_alloc]; omega) _).trans (hb4.mono (by simp only [World.size_alloc]; omega)); have hs5 := b5.lt; have hs6 := b6.lt; clear hb4 b3 q3 hs3 b4 b5 b6)
    | (go_at_call 28; refine (alive21 _).mono ?_; rintro e w9 ⟨rfl, hb9⟩))
  go_ret
  exact ⟨rfl, ((hB2.alloc (by omega) _).alloc (by simp only [World.size_alloc]; omega) _).trans (hb9.mono (by simp only [World.size_alloc]; omega))⟩
set_option maxRecDepth 100000 in
set_option maxHeartbeats 4000000 in
theorem turns_inhi2 (e : Int) (o0 o1 o3 o4 : Bool) (j0 j1 j2 j3 j4 : Int) (w : World) (he : 1099511627776 ≤ e) : Calls Try.prog 5 #[.agg #[.int .i64 (e), .bool o0, .bool o1, .bool false, .bool o3, .bool o4, .int .i64 j0, .int .i64 j1, .int .i64 j2, .int .i64 j3, .int .i64 j4], .int .i64 2] w fun x w' => x = .returned (.bool true) ∧ Below w.heap.size w w' := by
  go_enter Try.func5, Try.ntmps5
  go_wp2
  generalize hW : w.alloc (.cells #[.int .i64 (e), .bool o0, .bool o1, .bool false, .bool o3, .bool o4, .int .i64 j0, .int .i64 j1, .int .i64 j2, .int .i64 j3, .int .i64 j4] 36) = W
  have b0 : Blk W w.heap.size 36 #[.int .i64 (e), .bool o0, .bool o1, .bool false, .bool o3, .bool o4, .int .i64 j0, .int .i64 j1, .int .i64 j2, .int .i64 j3, .int .i64 j4] := by rw [← hW]; exact Blk.new _ _ _
  have hB : Below w.heap.size w W := by rw [← hW]; exact (Below.refl _ _).alloc (Nat.le_refl _) _
  have hs := b0.lt
  clear hW
  have k0 : ∀ i d os, (grow (redrawn W d) os).cell? ⟨w.heap.size, i, none⟩ = (#[.int .i64 (e), .bool o0, .bool o1, .bool false, .bool o3, .bool o4, .int .i64 j0, .int .i64 j1, .int .i64 j2, .int .i64 j3, .int .i64 j4] : Array Value)[i]? := fun i d os => ((below_regrown W d os).cell (p := ⟨w.heap.size, i, none⟩) hs).trans (b0.cell i)
  have q0 := b0.cell
  have cR : ∀ d os, Calls Try.prog 22 _ (grow (redrawn W d) os) _ := fun d os => Calls.regrown_of (conf_Right e o0 o1 false o3 o4 j0 j1 j2 j3 j4 _)
  have cr : ∀ d os, Calls Try.prog 23 _ (grow (redrawn W d) os) _ := fun d os => Calls.regrown_of (law21_right e o0 o1 false o3 o4 j0 j1 j2 j3 j4 _)
  have cI : ∀ d os, Calls Try.prog 24 _ (grow (redrawn W d) os) _ := fun d os => Calls.regrown_of (conf_Is e o0 o1 false o3 o4 j0 j1 j2 j3 j4 2 _)
  have cA : ∀ d os, Calls Try.prog 25 _ (grow (redrawn W d) os) _ := fun d os => Calls.regrown_of (conf_Always e o0 o1 false o3 o4 j0 j1 j2 j3 j4 2 _)
  have hO : cOut o0 o1 false o3 o4 2 = false := rfl
  have hJ : cJoin j0 j1 j2 j3 j4 2 = j2 := rfl
  have E1 := fun w a0 a1 a2 a3 a4 b0 b1 b2 b3 b4 => run_equalIn_five_bool (P := Try.prog) w 9997 33 4 Try.underlying33 Try.underlying4 (fun _ => by kernel_rfl) (fun _ => by kernel_rfl) a0 a1 a2 a3 a4 b0 b1 b2 b3 b4
  have E2 := fun w a0 a1 a2 a3 a4 b0 b1 b2 b3 b4 => run_equalIn_five_int (P := Try.prog) w 9997 34 3 Try.underlying34 Try.underlying3 (fun _ => by kernel_rfl) (fun _ => by kernel_rfl) a0 a1 a2 a3 a4 b0 b1 b2 b3 b4
  simp only [Nat.reduceAdd] at E1 E2
  refine wp_region_quiet_below (by kernel_rfl) (by kernel_rfl) ?_
  repeat (go_big_quiet_step (first | exact cR _ _ | exact cr _ _ | exact cI _ _ | exact cA _ _))
  refine wpQuiet_nil ?_
  intro _ hw'
  obtain ⟨⟨dq, osq⟩, hw''⟩ := hw'
  subst hw''
  generalize hW2 : grow (redrawn W dq) osq = W2
  have hB2 : Below w.heap.size w W2 := by rw [← hW2]; exact below_regrown_of hB hB.size _ _
  have b2 : Blk W2 w.heap.size 36 #[.int .i64 (e), .bool o0, .bool o1, .bool false, .bool o3, .bool o4, .int .i64 j0, .int .i64 j1, .int .i64 j2, .int .i64 j3, .int .i64 j4] := by rw [← hW2]; exact b0.below (below_regrown W dq osq) hs
  have hs2 := b2.lt
  have q2 := b2.cell
  clear hW2 cR cr cI cA hB k0 q0 b0 hs
  go_wp2_with (first
    | (go_at_call 26; refine (exclude_full2 e o0 o1 o3 o4 j0 j1 j2 j3 j4 _ he).mono ?_; rintro e w3 ⟨rfl, hb3⟩; replace hB2 := hB2.trans (hb3.mono (Nat.le_of_lt hs2)); have b3 := b2.below hb3 hs2; have hs3 := b3.lt; have q3 := b3.cell; clear hb3 b2 q2 hs2)
    | (go_at_call 27; refine (include_in2 e o0 o1 o3 o4 j0 j1 j2 j3 j4 _).mono ?_; rintro e w4 ⟨rfl, hb4⟩; have b4 := (((b3.alloc _).alloc _).below hb4 (by simp only [World.size_alloc]; omega)); have hs4 := b4.lt; have q4 := b4.cell; have b5 := (((Blk.new w3 36 #[.int .i64 (e), .bool o0, .bool o1, .bool false, .bool o3, .bool o4, .int .i64 j0, .int .i64 j1, .int .i64 j2, .int .i64 j3, .int .i64 j4]).alloc _).below hb4 (by simp only [World.size_alloc]; omega)); have q5 := b5.cell; have b6 := ((Blk.new (w3.alloc _) 36 #[.int .i64 (e), .bool o0, .bool o1, .bool false, .bool o3, .bool o4, .int .i64 j0, .int .i64 j1, .int .i64 j2, .int .i64 j3, .int .i64 j4]).below hb4 (by simp only [World.size_alloc]; omega)); have q6 := b6.cell; simp only [World.size_alloc] at q6; replace hB2 := ((hB2.alloc (Nat.le_of_lt hs3) _).alloc (by simp only [World.size_alloc]; omega) _).trans (hb4.mono (by simp only [World.size_alloc]; omega)); have hs5 := b5.lt; have hs6 := b6.lt; clear hb4 b3 q3 hs3 b4 b5 b6)
    | (go_at_call 28; refine (alive21 _).mono ?_; rintro e w9 ⟨rfl, hb9⟩))
  go_ret
  exact ⟨rfl, ((hB2.alloc (by omega) _).alloc (by simp only [World.size_alloc]; omega) _).trans (hb9.mono (by simp only [World.size_alloc]; omega))⟩
set_option maxRecDepth 100000 in
set_option maxHeartbeats 4000000 in
theorem turns_outlo2 (e : Int) (o0 o1 o3 o4 : Bool) (j0 j1 j2 j3 j4 : Int) (w : World) (he0 : -9223372036854775808 ≤ e) (he : e < 1099511627776) : Calls Try.prog 5 #[.agg #[.int .i64 (e), .bool o0, .bool o1, .bool true, .bool o3, .bool o4, .int .i64 j0, .int .i64 j1, .int .i64 j2, .int .i64 j3, .int .i64 j4], .int .i64 2] w fun x w' => x = .returned (.bool true) ∧ Below w.heap.size w w' := by
  go_enter Try.func5, Try.ntmps5
  go_wp2
  generalize hW : w.alloc (.cells #[.int .i64 (e), .bool o0, .bool o1, .bool true, .bool o3, .bool o4, .int .i64 j0, .int .i64 j1, .int .i64 j2, .int .i64 j3, .int .i64 j4] 36) = W
  have b0 : Blk W w.heap.size 36 #[.int .i64 (e), .bool o0, .bool o1, .bool true, .bool o3, .bool o4, .int .i64 j0, .int .i64 j1, .int .i64 j2, .int .i64 j3, .int .i64 j4] := by rw [← hW]; exact Blk.new _ _ _
  have hB : Below w.heap.size w W := by rw [← hW]; exact (Below.refl _ _).alloc (Nat.le_refl _) _
  have hs := b0.lt
  clear hW
  have k0 : ∀ i d os, (grow (redrawn W d) os).cell? ⟨w.heap.size, i, none⟩ = (#[.int .i64 (e), .bool o0, .bool o1, .bool true, .bool o3, .bool o4, .int .i64 j0, .int .i64 j1, .int .i64 j2, .int .i64 j3, .int .i64 j4] : Array Value)[i]? := fun i d os => ((below_regrown W d os).cell (p := ⟨w.heap.size, i, none⟩) hs).trans (b0.cell i)
  have q0 := b0.cell
  have cR : ∀ d os, Calls Try.prog 22 _ (grow (redrawn W d) os) _ := fun d os => Calls.regrown_of (conf_Right e o0 o1 true o3 o4 j0 j1 j2 j3 j4 _)
  have cr : ∀ d os, Calls Try.prog 23 _ (grow (redrawn W d) os) _ := fun d os => Calls.regrown_of (law21_right e o0 o1 true o3 o4 j0 j1 j2 j3 j4 _)
  have cI : ∀ d os, Calls Try.prog 24 _ (grow (redrawn W d) os) _ := fun d os => Calls.regrown_of (conf_Is e o0 o1 true o3 o4 j0 j1 j2 j3 j4 2 _)
  have cA : ∀ d os, Calls Try.prog 25 _ (grow (redrawn W d) os) _ := fun d os => Calls.regrown_of (conf_Always e o0 o1 true o3 o4 j0 j1 j2 j3 j4 2 _)
  have hO : cOut o0 o1 true o3 o4 2 = true := rfl
  have hJ : cJoin j0 j1 j2 j3 j4 2 = j2 := rfl
  have E1 := fun w a0 a1 a2 a3 a4 b0 b1 b2 b3 b4 => run_equalIn_five_bool (P := Try.prog) w 9997 33 4 Try.underlying33 Try.underlying4 (fun _ => by kernel_rfl) (fun _ => by kernel_rfl) a0 a1 a2 a3 a4 b0 b1 b2 b3 b4
  have E2 := fun w a0 a1 a2 a3 a4 b0 b1 b2 b3 b4 => run_equalIn_five_int (P := Try.prog) w 9997 34 3 Try.underlying34 Try.underlying3 (fun _ => by kernel_rfl) (fun _ => by kernel_rfl) a0 a1 a2 a3 a4 b0 b1 b2 b3 b4
  simp only [Nat.reduceAdd] at E1 E2
  refine wp_region_quiet_below (by kernel_rfl) (by kernel_rfl) ?_
  repeat (go_big_quiet_step (first | exact cR _ _ | exact cr _ _ | exact cI _ _ | exact cA _ _))
  refine wpQuiet_nil ?_
  intro _ hw'
  obtain ⟨⟨dq, osq⟩, hw''⟩ := hw'
  subst hw''
  generalize hW2 : grow (redrawn W dq) osq = W2
  have hB2 : Below w.heap.size w W2 := by rw [← hW2]; exact below_regrown_of hB hB.size _ _
  have b2 : Blk W2 w.heap.size 36 #[.int .i64 (e), .bool o0, .bool o1, .bool true, .bool o3, .bool o4, .int .i64 j0, .int .i64 j1, .int .i64 j2, .int .i64 j3, .int .i64 j4] := by rw [← hW2]; exact b0.below (below_regrown W dq osq) hs
  have hs2 := b2.lt
  have q2 := b2.cell
  clear hW2 cR cr cI cA hB k0 q0 b0 hs
  go_wp2_with (first
    | (go_at_call 26; refine (exclude_out2 e o0 o1 o3 o4 j0 j1 j2 j3 j4 _).mono ?_; rintro e w3 ⟨rfl, hb3⟩; replace hB2 := hB2.trans (hb3.mono (Nat.le_of_lt hs2)); have b3 := b2.below hb3 hs2; have hs3 := b3.lt; have q3 := b3.cell; clear hb3 b2 q2 hs2)
    | (go_at_call 27; refine (include_yes2 e o0 o1 o3 o4 j0 j1 j2 j3 j4 _ he0 he).mono ?_; rintro e w4 ⟨rfl, hb4⟩; have b4 := (((b3.alloc _).alloc _).below hb4 (by simp only [World.size_alloc]; omega)); have hs4 := b4.lt; have q4 := b4.cell; have b5 := (((Blk.new w3 36 #[.int .i64 (e), .bool o0, .bool o1, .bool true, .bool o3, .bool o4, .int .i64 j0, .int .i64 j1, .int .i64 j2, .int .i64 j3, .int .i64 j4]).alloc _).below hb4 (by simp only [World.size_alloc]; omega)); have q5 := b5.cell; have b6 := ((Blk.new (w3.alloc _) 36 #[.int .i64 (e), .bool o0, .bool o1, .bool true, .bool o3, .bool o4, .int .i64 j0, .int .i64 j1, .int .i64 j2, .int .i64 j3, .int .i64 j4]).below hb4 (by simp only [World.size_alloc]; omega)); have q6 := b6.cell; simp only [World.size_alloc] at q6; replace hB2 := ((hB2.alloc (Nat.le_of_lt hs3) _).alloc (by simp only [World.size_alloc]; omega) _).trans (hb4.mono (by simp only [World.size_alloc]; omega)); have hs5 := b5.lt; have hs6 := b6.lt; clear hb4 b3 q3 hs3 b4 b5 b6)
    | (go_at_call 28; refine (alive21 _).mono ?_; rintro e w9 ⟨rfl, hb9⟩))
  go_ret
  exact ⟨rfl, ((hB2.alloc (by omega) _).alloc (by simp only [World.size_alloc]; omega) _).trans (hb9.mono (by simp only [World.size_alloc]; omega))⟩
set_option maxRecDepth 100000 in
set_option maxHeartbeats 4000000 in
theorem turns_outhi2 (e : Int) (o0 o1 o3 o4 : Bool) (j0 j1 j2 j3 j4 : Int) (w : World) (he : 1099511627776 ≤ e) : Calls Try.prog 5 #[.agg #[.int .i64 (e), .bool o0, .bool o1, .bool true, .bool o3, .bool o4, .int .i64 j0, .int .i64 j1, .int .i64 j2, .int .i64 j3, .int .i64 j4], .int .i64 2] w fun x w' => x = .returned (.bool true) ∧ Below w.heap.size w w' := by
  go_enter Try.func5, Try.ntmps5
  go_wp2
  generalize hW : w.alloc (.cells #[.int .i64 (e), .bool o0, .bool o1, .bool true, .bool o3, .bool o4, .int .i64 j0, .int .i64 j1, .int .i64 j2, .int .i64 j3, .int .i64 j4] 36) = W
  have b0 : Blk W w.heap.size 36 #[.int .i64 (e), .bool o0, .bool o1, .bool true, .bool o3, .bool o4, .int .i64 j0, .int .i64 j1, .int .i64 j2, .int .i64 j3, .int .i64 j4] := by rw [← hW]; exact Blk.new _ _ _
  have hB : Below w.heap.size w W := by rw [← hW]; exact (Below.refl _ _).alloc (Nat.le_refl _) _
  have hs := b0.lt
  clear hW
  have k0 : ∀ i d os, (grow (redrawn W d) os).cell? ⟨w.heap.size, i, none⟩ = (#[.int .i64 (e), .bool o0, .bool o1, .bool true, .bool o3, .bool o4, .int .i64 j0, .int .i64 j1, .int .i64 j2, .int .i64 j3, .int .i64 j4] : Array Value)[i]? := fun i d os => ((below_regrown W d os).cell (p := ⟨w.heap.size, i, none⟩) hs).trans (b0.cell i)
  have q0 := b0.cell
  have cR : ∀ d os, Calls Try.prog 22 _ (grow (redrawn W d) os) _ := fun d os => Calls.regrown_of (conf_Right e o0 o1 true o3 o4 j0 j1 j2 j3 j4 _)
  have cr : ∀ d os, Calls Try.prog 23 _ (grow (redrawn W d) os) _ := fun d os => Calls.regrown_of (law21_right e o0 o1 true o3 o4 j0 j1 j2 j3 j4 _)
  have cI : ∀ d os, Calls Try.prog 24 _ (grow (redrawn W d) os) _ := fun d os => Calls.regrown_of (conf_Is e o0 o1 true o3 o4 j0 j1 j2 j3 j4 2 _)
  have cA : ∀ d os, Calls Try.prog 25 _ (grow (redrawn W d) os) _ := fun d os => Calls.regrown_of (conf_Always e o0 o1 true o3 o4 j0 j1 j2 j3 j4 2 _)
  have hO : cOut o0 o1 true o3 o4 2 = true := rfl
  have hJ : cJoin j0 j1 j2 j3 j4 2 = j2 := rfl
  have E1 := fun w a0 a1 a2 a3 a4 b0 b1 b2 b3 b4 => run_equalIn_five_bool (P := Try.prog) w 9997 33 4 Try.underlying33 Try.underlying4 (fun _ => by kernel_rfl) (fun _ => by kernel_rfl) a0 a1 a2 a3 a4 b0 b1 b2 b3 b4
  have E2 := fun w a0 a1 a2 a3 a4 b0 b1 b2 b3 b4 => run_equalIn_five_int (P := Try.prog) w 9997 34 3 Try.underlying34 Try.underlying3 (fun _ => by kernel_rfl) (fun _ => by kernel_rfl) a0 a1 a2 a3 a4 b0 b1 b2 b3 b4
  simp only [Nat.reduceAdd] at E1 E2
  refine wp_region_quiet_below (by kernel_rfl) (by kernel_rfl) ?_
  repeat (go_big_quiet_step (first | exact cR _ _ | exact cr _ _ | exact cI _ _ | exact cA _ _))
  refine wpQuiet_nil ?_
  intro _ hw'
  obtain ⟨⟨dq, osq⟩, hw''⟩ := hw'
  subst hw''
  generalize hW2 : grow (redrawn W dq) osq = W2
  have hB2 : Below w.heap.size w W2 := by rw [← hW2]; exact below_regrown_of hB hB.size _ _
  have b2 : Blk W2 w.heap.size 36 #[.int .i64 (e), .bool o0, .bool o1, .bool true, .bool o3, .bool o4, .int .i64 j0, .int .i64 j1, .int .i64 j2, .int .i64 j3, .int .i64 j4] := by rw [← hW2]; exact b0.below (below_regrown W dq osq) hs
  have hs2 := b2.lt
  have q2 := b2.cell
  clear hW2 cR cr cI cA hB k0 q0 b0 hs
  go_wp2_with (first
    | (go_at_call 26; refine (exclude_out2 e o0 o1 o3 o4 j0 j1 j2 j3 j4 _).mono ?_; rintro e w3 ⟨rfl, hb3⟩; replace hB2 := hB2.trans (hb3.mono (Nat.le_of_lt hs2)); have b3 := b2.below hb3 hs2; have hs3 := b3.lt; have q3 := b3.cell; clear hb3 b2 q2 hs2)
    | (go_at_call 27; refine (include_full2 e o0 o1 o3 o4 j0 j1 j2 j3 j4 _ he).mono ?_; rintro e w4 ⟨rfl, hb4⟩; have b4 := (((b3.alloc _).alloc _).below hb4 (by simp only [World.size_alloc]; omega)); have hs4 := b4.lt; have q4 := b4.cell; have b5 := (((Blk.new w3 36 #[.int .i64 (e), .bool o0, .bool o1, .bool true, .bool o3, .bool o4, .int .i64 j0, .int .i64 j1, .int .i64 j2, .int .i64 j3, .int .i64 j4]).alloc _).below hb4 (by simp only [World.size_alloc]; omega)); have q5 := b5.cell; have b6 := ((Blk.new (w3.alloc _) 36 #[.int .i64 (e), .bool o0, .bool o1, .bool true, .bool o3, .bool o4, .int .i64 j0, .int .i64 j1, .int .i64 j2, .int .i64 j3, .int .i64 j4]).below hb4 (by simp only [World.size_alloc]; omega)); have q6 := b6.cell; simp only [World.size_alloc] at q6; replace hB2 := ((hB2.alloc (Nat.le_of_lt hs3) _).alloc (by simp only [World.size_alloc]; omega) _).trans (hb4.mono (by simp only [World.size_alloc]; omega)); have hs5 := b5.lt; have hs6 := b6.lt; clear hb4 b3 q3 hs3 b4 b5 b6)
    | (go_at_call 28; refine (alive21 _).mono ?_; rintro e w9 ⟨rfl, hb9⟩))
  go_ret
  exact ⟨rfl, ((hB2.alloc (by omega) _).alloc (by simp only [World.size_alloc]; omega) _).trans (hb9.mono (by simp only [World.size_alloc]; omega))⟩
end Go.Proofs.Ytnaaknkknhediaa
