/- The walk of the law StampOrders: it returns true, and nothing that was there ahead of the call has turned. No condition. -/
import Derived.Test.YtnaaknkknhediaaStampC
import Derived.Test.YtnaaknkknhediaaStampE
import Derived.Lib.QuietBelow
namespace Go.Proofs.Ytnaaknkknhediaa
open Go.RowKit Go.Sort

theorem clock_Now_ok (g : Nat) (who phys l0 l1 l2 n0 n1 : Int) (w : World) (h : Blk w g 111 #[.int .i64 who, .int .i64 phys, .int .i64 l0, .int .i64 l1, .int .i64 l2]) (hl : -9223372036854775808 ≤ l1 ∧ l1 < 9223372036854775807)
    (e0 : nx0 phys l0 = n0) (e1 : nx1 phys l0 l1 = n1) (hr : rightB n0 n1 who = true) :
    Calls Try.prog 57 #[.pointer (some ⟨g, 0, none⟩)] w fun e w' => e = .returned (.tuple #[.agg #[.int .i64 n0, .int .i64 n1, .int .i64 who], .bool true]) ∧
        Blk w' g 111 #[.int .i64 who, .int .i64 phys, .int .i64 n0, .int .i64 n1, .int .i64 who] ∧ w.grownBy w' (some g) := by
  subst e0 e1
  exact (clock_Now g who phys l0 l1 l2 w h hl).mono fun _ _ k => k.1 hr

set_option maxRecDepth 100000 in
set_option maxHeartbeats 1000000 in
theorem alive04 (w : World) : Calls Try.prog 51 #[] w fun e w' => e = .returned (.bool true) ∧ Below w.heap.size w w' := by
  go_enter Try.func51, Try.ntmps51
  go_wp2_with fail
  refine (stamp_New 3 7 w).mono ?_
  rintro e w1 ⟨rfl, rfl⟩
  rw [show cutS 3 = 3 by decide, show cutS 7 = 7 by decide]
  have B0 := Blk.new w 111 #[.int .i64 3, .int .i64 7, .int .i64 0, .int .i64 0, .int .i64 0]
  have hG : Below w.heap.size w (w.alloc (.cells #[.int .i64 3, .int .i64 7, .int .i64 0, .int .i64 0, .int .i64 0] 111)) := (Below.refl _ _).alloc (Nat.le_refl _) _
  generalize w.alloc (.cells #[.int .i64 3, .int .i64 7, .int .i64 0, .int .i64 0, .int .i64 0] 111) = W at *
  have hlt := B0.lt
  go_wp2_with fail
  refine (clock_Now_ok w.heap.size 3 7 0 0 0 7 0 W B0 (by decide) (by decide) (by decide) (by decide)).mono ?_
  rintro e w2 ⟨rfl, B1, g1⟩
  have hG2 : Below w.heap.size w w2 := Below.grown hG g1 hG.size (fun k hk => by injection hk with hk; omega)
  have S1 := g1.size
  clear B0 hG g1
  go_wp2_with fail
  have B2 := B1.alloc (.cells #[.int .i64 7, .int .i64 0, .int .i64 3] 51)
  have A2 := Blk.new w2 51 #[.int .i64 7, .int .i64 0, .int .i64 3]
  have hG3 := hG2.alloc hG2.size (.cells #[.int .i64 7, .int .i64 0, .int .i64 3] 51)
  generalize hW2 : w2.alloc (.cells #[.int .i64 7, .int .i64 0, .int .i64 3] 51) = W2 at *
  clear hW2
  refine (clock_Now_ok w.heap.size 3 7 7 0 3 7 1 W2 B2 (by decide) (by decide) (by decide) (by decide)).mono ?_
  rintro e w3 ⟨rfl, _, g3⟩
  have A3 := A2.grown g3 (by simp; omega)
  have hG4 : Below w.heap.size w w3 := Below.grown hG3 g3 hG3.size (fun k hk => by injection hk with hk; omega)
  clear B1 B2 A2 g3 hG2 hG3
  have A4 := (A3.alloc (.cells #[.int .i64 7, .int .i64 1, .int .i64 3] 51)).cell
  have HG := Lib.hid (hG4.alloc hG4.size (.cells #[.int .i64 7, .int .i64 1, .int .i64 3] 51))
  clear hG4 A3
  go_wp2_with fail
  go_ret
  exact ⟨rfl, HG.out⟩

set_option maxRecDepth 100000 in
set_option maxHeartbeats 1000000 in
theorem stamp_orders_walk (w : World) (a0 a1 a2 : Int) (_ : (Lit.int .i64 a0).wf = true) (_ : (Lit.int .i64 a1).wf = true) (_ : (Lit.int .i64 a2).wf = true) (b0 b1 b2 : Int) (_ : (Lit.int .i64 b0).wf = true) (_ : (Lit.int .i64 b1).wf = true) (_ : (Lit.int .i64 b2).wf = true) :
    Calls Try.prog 9 #[.agg #[.int .i64 a0, .int .i64 a1, .int .i64 a2], .agg #[.int .i64 b0, .int .i64 b1, .int .i64 b2]] w fun e w' => e = .returned (.bool true) ∧ Below w.heap.size w w' := by
  go_enter Try.func9, Try.ntmps9
  go_wp2
  generalize hW : (w.alloc (.cells #[.int .i64 a0, .int .i64 a1, .int .i64 a2] 51)).alloc (.cells #[.int .i64 b0, .int .i64 b1, .int .i64 b2] 51) = W
  have c0 : W.cell? ⟨w.heap.size, 0, none⟩ = some (.int .i64 a0) := by rw [← hW, World.cell?_alloc_lt _ _ _ (by simp)]; simp [World.cell?_alloc_new]
  have c1 : W.cell? ⟨w.heap.size, 1, none⟩ = some (.int .i64 a1) := by rw [← hW, World.cell?_alloc_lt _ _ _ (by simp)]; simp [World.cell?_alloc_new]
  have c2 : W.cell? ⟨w.heap.size, 2, none⟩ = some (.int .i64 a2) := by rw [← hW, World.cell?_alloc_lt _ _ _ (by simp)]; simp [World.cell?_alloc_new]
  have d0 : W.cell? ⟨w.heap.size + 1, 0, none⟩ = some (.int .i64 b0) := by
    rw [← hW]; simp
  have d1 : W.cell? ⟨w.heap.size + 1, 1, none⟩ = some (.int .i64 b1) := by
    rw [← hW]; simp
  have d2 : W.cell? ⟨w.heap.size + 1, 2, none⟩ = some (.int .i64 b2) := by
    rw [← hW]; simp
  have hb : Below w.heap.size w W := by rw [← hW]; exact ((Below.refl _ _).alloc (Nat.le_refl _) _).alloc (by simp) _
  have HB := Lib.hid hb
  clear hb hW
  have k0 := cell_regrown c0
  have k1 := cell_regrown c1
  have k2 := cell_regrown c2
  have q0 := cell_regrown d0
  have q1 := cell_regrown d1
  have q2 := cell_regrown d2
  obtain ⟨x0, x1, x2, hM⟩ : ∃ x0 x1 x2, (if cmpS a0 a1 a2 b0 b1 b2 < 0 then Value.agg #[.int .i64 b0, .int .i64 b1, .int .i64 b2] else .agg #[.int .i64 a0, .int .i64 a1, .int .i64 a2]) = .agg #[.int .i64 x0, .int .i64 x1, .int .i64 x2] := by
    split
    · exact ⟨_, _, _, rfl⟩
    · exact ⟨_, _, _, rfl⟩
  have cA : ∀ d os, Calls Try.prog 43 #[.agg #[.int .i64 a0, .int .i64 a1, .int .i64 a2], .agg #[.int .i64 b0, .int .i64 b1, .int .i64 b2]] (grow (redrawn W d) os) fun e w'' => e = .returned (.int .i64 (cmpS a0 a1 a2 b0 b1 b2)) ∧ ∃ p : Regrown, w'' = grow (redrawn W p.d) p.os := fun d os => Calls.regrown_of (stamp_Compare a0 a1 a2 b0 b1 b2 _)
  have cB : ∀ d os, Calls Try.prog 44 #[.agg #[.int .i64 a0, .int .i64 a1, .int .i64 a2], .agg #[.int .i64 b0, .int .i64 b1, .int .i64 b2]] (grow (redrawn W d) os) fun e w'' => e = .returned (.int .i64 (cmpS a0 a1 a2 b0 b1 b2)) ∧ ∃ p : Regrown, w'' = grow (redrawn W p.d) p.os := fun d os => Calls.regrown_of (ref04_Compare a0 a1 a2 b0 b1 b2 _)
  have cC : ∀ d os, Calls Try.prog 45 #[.agg #[.int .i64 a0, .int .i64 a1, .int .i64 a2], .agg #[.int .i64 b0, .int .i64 b1, .int .i64 b2]] (grow (redrawn W d) os) fun e w'' => e = .returned (.bool (decide (cmpS a0 a1 a2 b0 b1 b2 < 0))) ∧ ∃ p : Regrown, w'' = grow (redrawn W p.d) p.os := fun d os => Calls.regrown_of (stamp_Less a0 a1 a2 b0 b1 b2 _)
  have cD : ∀ d os, Calls Try.prog 46 #[.agg #[.int .i64 a0, .int .i64 a1, .int .i64 a2], .agg #[.int .i64 b0, .int .i64 b1, .int .i64 b2]] (grow (redrawn W d) os) fun e w'' => e = .returned (.bool (decide (cmpS a0 a1 a2 b0 b1 b2 < 0))) ∧ ∃ p : Regrown, w'' = grow (redrawn W p.d) p.os := fun d os => Calls.regrown_of (ref04_Less a0 a1 a2 b0 b1 b2 _)
  have cE : ∀ d os, Calls Try.prog 47 #[.agg #[.int .i64 a0, .int .i64 a1, .int .i64 a2], .agg #[.int .i64 b0, .int .i64 b1, .int .i64 b2]] (grow (redrawn W d) os) fun e w'' => e = .returned (.agg #[.int .i64 x0, .int .i64 x1, .int .i64 x2]) ∧ ∃ p : Regrown, w'' = grow (redrawn W p.d) p.os := fun d os => Calls.regrown_of (hM ▸ stamp_Max a0 a1 a2 b0 b1 b2 _)
  have cF : ∀ d os, Calls Try.prog 48 #[.agg #[.int .i64 a0, .int .i64 a1, .int .i64 a2], .agg #[.int .i64 b0, .int .i64 b1, .int .i64 b2]] (grow (redrawn W d) os) fun e w'' => e = .returned (.agg #[.int .i64 x0, .int .i64 x1, .int .i64 x2]) ∧ ∃ p : Regrown, w'' = grow (redrawn W p.d) p.os := fun d os => Calls.regrown_of (hM ▸ ref04_Max a0 a1 a2 b0 b1 b2 _)
  have cG : ∀ d os, Calls Try.prog 49 #[.agg #[.int .i64 a0, .int .i64 a1, .int .i64 a2]] (grow (redrawn W d) os) fun e w'' => e = .returned (.bool (rightB a0 a1 a2)) ∧ ∃ p : Regrown, w'' = grow (redrawn W p.d) p.os := fun d os => Calls.regrown_of (stamp_Right a0 a1 a2 _)
  have cH : ∀ d os, Calls Try.prog 50 #[.agg #[.int .i64 a0, .int .i64 a1, .int .i64 a2]] (grow (redrawn W d) os) fun e w'' => e = .returned (.bool (rightB a0 a1 a2)) ∧ ∃ p : Regrown, w'' = grow (redrawn W p.d) p.os := fun d os => Calls.regrown_of (ref04_Right a0 a1 a2 _)
  have cI : ∀ d os, Calls Try.prog 51 #[] (grow (redrawn W d) os) fun e w'' => e = .returned (.bool true) ∧ ∃ p : Regrown, w'' = grow (redrawn W p.d) p.os := fun d os => Calls.regrown_of (alive04 _)
  clear hM
  refine wp_region_quiet_below (by kernel_rfl) (by kernel_rfl) ?_
  repeat (go_big_quiet_step (first | exact cA _ _ | exact cB _ _ | exact cC _ _ | exact cD _ _ | exact cE _ _ | exact cF _ _ | exact cG _ _ | exact cH _ _ | exact cI _ _))
  refine wpQuiet_nil ?_
  intro _ hw'
  obtain ⟨⟨dq, osq⟩, hw''⟩ := hw'
  subst hw''
  go_wp2
  go_ret
  exact ⟨rfl, below_regrown_of HB.out HB.out.size _ _⟩
end Go.Proofs.Ytnaaknkknhediaa
