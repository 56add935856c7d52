/- The walk of the law MutRight: it returns true, and nothing that was there ahead of the call has turned. -/
import Derived.Test.YthbhbechemnidaaDoorMutK
import Derived.Test.YthbhbechemnidaaDoorMutL
import Derived.Test.YthbhbechemnidaaDoorOpenMut
import Derived.Test.YthbhbechemnidaaDoorNumsC
namespace Go.Proofs.YthbhbechemnidaaDoor
open Go.RowKit Go.Sort

set_option maxRecDepth 100000 in
set_option maxHeartbeats 4000000 in
theorem mut_right_walk (w : World) (hT : Tabs w) (m : Mut) (A : Option Addr) (n c : Nat) (_ : n ≤ c) (_ : c ≤ maxLen) (_ : A = none → c = 0) (hr : Reads w w.heap.size 3 A n (m.ov.flatMap sc)) (_ : MutW m) :
    Calls Tryd.prog 5 #[.agg (mutC m (.slice A n c))] w fun e w' => e = .returned (.bool true) ∧ Below w.heap.size w w' := by
  have BK := Blk.new w 35 (mutC m (.slice A n c))
  have hB : Below w.heap.size w (w.alloc (.cells (mutC m (.slice A n c)) 35)) := (Below.refl _ _).alloc (Nat.le_refl _) _
  have HR := Lib.hid hr
  have HT := Lib.hid hT
  clear hr hT
  obtain ⟨Q, hQ⟩ : ∃ Q, mrtB m = Q := ⟨_, rfl⟩
  obtain ⟨gq, hg⟩ : ∃ g, great7 m n = g := ⟨_, rfl⟩
  have HG := Lib.hid hg
  go_enter Tryd.func5, Tryd.ntmps5
  go_upto_region 1 with fail
  generalize w.alloc (.cells (mutC m (.slice A n c)) 35) = W at *
  have q0 := cell_regrown (show W.cell? ⟨w.heap.size, 0, none⟩ = some (.int .i64 m.tab) from BK.cell 0)
  have q1 := cell_regrown (show W.cell? ⟨w.heap.size, 1, none⟩ = some (.int .i64 m.kind) from BK.cell 1)
  have q2 := cell_regrown (show W.cell? ⟨w.heap.size, 2, none⟩ = some (.string m.key) from BK.cell 2)
  have q3 := cell_regrown (show W.cell? ⟨w.heap.size, 3, none⟩ = some (.string m.en) from BK.cell 3)
  have q4 := cell_regrown (show W.cell? ⟨w.heap.size, 4, none⟩ = some (.string m.val) from BK.cell 4)
  have q5 := cell_regrown (show W.cell? ⟨w.heap.size, 5, none⟩ = some (.int .i64 m.exp) from BK.cell 5)
  have q6 := cell_regrown (show W.cell? ⟨w.heap.size, 6, none⟩ = some (.int .i64 m.at_.1) from BK.cell 6)
  have q7 := cell_regrown (show W.cell? ⟨w.heap.size, 7, none⟩ = some (.int .i64 m.at_.2.1) from BK.cell 7)
  have q8 := cell_regrown (show W.cell? ⟨w.heap.size, 8, none⟩ = some (.int .i64 m.at_.2.2) from BK.cell 8)
  have q9 := cell_regrown (show W.cell? ⟨w.heap.size, 9, none⟩ = some (.slice A n c) from BK.cell 9)
  have k1 : ∀ d os, Calls Tryd.prog 24 #[.agg (mutC m (.slice A n c))] (grow (redrawn W d) os) fun e w'' => e = .returned (.bool gq) ∧ ∃ p : Regrown, w'' = grow (redrawn W p.d) p.os := fun d os => Calls.regrown_of (hg ▸ law07_Great m A n c _)
  clear hg
  unfold mutC at k1
  cases gq
  case true =>
    clear hQ
    refine wp_region_quiet_below (by kernel_rfl) (by kernel_rfl) ?_
    repeat (go_big_quiet_step (first | with_reducible exact k1 _ _))
    refine wpQuiet_nil ?_
    intro _ hw'
    obtain ⟨⟨dq, osq⟩, hw''⟩ := hw'
    subst hw''
    replace hB := below_regrown_of hB hB.size dq osq
    generalize grow (redrawn W dq) osq = W2 at *
    go_wp2_with fail
    go_ret
    exact ⟨rfl, hB⟩
  obtain ⟨z1, z2, z3, z4⟩ := great7_no HG.out
  have k2 : ∀ d os, Calls Tryd.prog 33 #[.agg (mutC m (.slice A n c))] (grow (redrawn W d) os) fun e w'' => e = .returned (.bool Q) ∧ ∃ p : Regrown, w'' = grow (redrawn W p.d) p.os := fun d os => Calls.regrown_of (hQ ▸ mut_Right m A n c _ (HT.out.in_ (Nat.le_refl _) (below_regrown_of hB hB.size d os)) ((HR.out.below (below_regrown_of hB hB.size d os)).more (below_regrown_of hB hB.size d os).size) (by omega) (by unfold maxLen; omega) (by unfold maxLen; omega) (by unfold maxLen; omega))
  have k3 : ∀ d os, Calls Tryd.prog 13 #[.agg (mutC m (.slice A n c))] (grow (redrawn W d) os) fun e w'' => e = .returned (.bool Q) ∧ ∃ p : Regrown, w'' = grow (redrawn W p.d) p.os := fun d os => Calls.regrown_of (hQ ▸ ref07_Right m A n c _ (HT.out.in_ (Nat.le_refl _) (below_regrown_of hB hB.size d os)) ((HR.out.below (below_regrown_of hB hB.size d os)).more (below_regrown_of hB hB.size d os).size) (by omega) (by omega) (by omega) (by unfold maxLen; omega))
  have k4 : ∀ d os, Calls Tryd.prog 32 #[] (grow (redrawn W d) os) fun e w'' => e = .returned (.bool true) ∧ ∃ p : Regrown, w'' = grow (redrawn W p.d) p.os := fun d os => Calls.regrown_of (alive07 _ (HT.out.in_ (Nat.le_refl _) (below_regrown_of hB hB.size d os)))
  unfold mutC at k2 k3
  have hq : (Q == Q) = true := by simp
  clear hQ z1 z2 z3 z4
  refine wp_region_quiet_below (by kernel_rfl) (by kernel_rfl) ?_
  repeat (go_big_quiet_step (first | with_reducible exact k1 _ _ | with_reducible exact k2 _ _ | with_reducible exact k3 _ _ | with_reducible exact k4 _ _))
  refine wpQuiet_nil ?_
  intro _ hw'
  obtain ⟨⟨dq, osq⟩, hw''⟩ := hw'
  subst hw''
  replace hB := below_regrown_of hB hB.size dq osq
  generalize grow (redrawn W dq) osq = W2 at *
  go_wp2_with fail
  go_ret
  exact ⟨rfl, hB⟩
end Go.Proofs.YthbhbechemnidaaDoor
