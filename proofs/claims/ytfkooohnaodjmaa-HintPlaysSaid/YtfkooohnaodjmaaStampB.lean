/- Contracts of cmp.isNaN, cmp.Compare, cmp.Or (of three) at int. No condition. Contracts of stamp.Compare. No condition. -/
import Derived.Test.YtfkooohnaodjmaaWords
import Derived.Lib.Hide
import Derived.Test.YtfkooohnaodjmaaBytesA
import Derived.StillTailTactics
namespace Go.Proofs.Ytfkooohnaodjmaa
open Go.RowKit Go.Sort

/-- How two numbers stand. -/
def cmpI (a b : Int) : Int := if a < b then -1 else if b < a then 1 else 0
/-- The first that is not 0. -/
def or3 (x y z : Int) : Int := if x = 0 then (if y = 0 then z else y) else x

theorem cmp_isNaN (a : Int) (w : World) : Calls Try.prog 58 #[.int .i64 a] w fun e w' => e = .returned (.bool false) ∧ w = w' := by
  go_enter Try.func58, Try.ntmps58
  go_wp2
  go_ret
  exact ⟨ret_bool' (by simp), rfl⟩

set_option maxRecDepth 100000 in
theorem cmp_Compare (a b : Int) (w : World) : Calls Try.prog 39 #[.int .i64 a, .int .i64 b] w fun e w' => e = .returned (.int .i64 (cmpI a b)) ∧ w = w' := by
  unfold cmpI
  have hcase : (decide (a < b) = true ∧ a < b) ∨ (decide (a < b) = false ∧ ¬ a < b ∧ decide (b < a) = true ∧ b < a) ∨ (decide (a < b) = false ∧ ¬ a < b ∧ decide (b < a) = false ∧ ¬ b < a) := by simp; omega
  rcases hcase with ⟨h1, h2⟩ | ⟨h1, h2, h3, h4⟩ | ⟨h1, h2, h3, h4⟩
  · rw [if_pos h2]
    clear h2
    go_enter Try.func39, Try.ntmps39
    go_wp2_with fail
    refine (cmp_isNaN a w).mono ?_
    rintro e w1 ⟨rfl, rfl⟩
    go_wp2_with fail
    refine (cmp_isNaN b w).mono ?_
    rintro e w1 ⟨rfl, rfl⟩
    go_wp2_with fail
    go_ret
    exact ⟨rfl, rfl⟩
  all_goals
    first | rw [if_neg h2, if_pos h4] | rw [if_neg h2, if_neg h4]
    clear h2 h4
    go_enter Try.func39, Try.ntmps39
    go_wp2_with fail
    refine (cmp_isNaN a w).mono ?_
    rintro e w1 ⟨rfl, rfl⟩
    go_wp2_with fail
    refine (cmp_isNaN b w).mono ?_
    rintro e w1 ⟨rfl, rfl⟩
    go_wp2_with fail
    go_ret
    exact ⟨rfl, rfl⟩

set_option maxRecDepth 100000 in
theorem cmp_Or3 (w : World) (g : Nat) (x y z : Int) (h0 : w.cell? ⟨g, 0, none⟩ = some (.int .i64 x)) (h1 : w.cell? ⟨g, 1, none⟩ = some (.int .i64 y)) (h2 : w.cell? ⟨g, 2, none⟩ = some (.int .i64 z)) :
    Calls Try.prog 38 #[.slice (some ⟨g, 0, none⟩) 3 3] w fun e w' => e = .returned (.int .i64 (or3 x y z)) ∧ w = w' := by
  unfold or3
  by_cases hx : x = 0
  · subst hx
    by_cases hy : y = 0
    · subst hy
      by_cases hz : z = 0
      · subst hz
        go_enter Try.func38, Try.ntmps38
        go_wp2
        refine wp_loop_rounds 4 ?_
        iterate 4 (rw [rounds_succ]; go_wp2)
        go_ret
        exact ⟨rfl, rfl⟩
      · have b1 : (z == 0) = false := by simp [hz]
        go_enter Try.func38, Try.ntmps38
        go_wp2
        refine wp_loop_rounds 3 ?_
        iterate 3 (rw [rounds_succ]; go_wp2)
        go_ret
        exact ⟨rfl, rfl⟩
    · have b1 : (y == 0) = false := by simp [hy]
      rw [if_pos rfl, if_neg hy]
      clear hy
      go_enter Try.func38, Try.ntmps38
      go_wp2
      refine wp_loop_rounds 2 ?_
      iterate 2 (rw [rounds_succ]; go_wp2)
      go_ret
      exact ⟨rfl, rfl⟩
  · have b1 : (x == 0) = false := by simp [hx]
    rw [if_neg hx]
    clear hx
    go_enter Try.func38, Try.ntmps38
    go_wp2
    refine wp_loop_rounds 1 ?_
    iterate 1 (rw [rounds_succ]; go_wp2)
    go_ret
    exact ⟨rfl, rfl⟩
end Go.Proofs.Ytfkooohnaodjmaa

namespace Go.Proofs.Ytfkooohnaodjmaa
open Go.RowKit Go.Sort

/-- How two stamps stand. -/
def cmpS (a0 a1 a2 b0 b1 b2 : Int) : Int := or3 (cmpI a0 b0) (cmpI a1 b1) (cmpI a2 b2)
/-- A stamp as a value. -/
def st (a b c : Int) : Value := .agg #[.int .i64 a, .int .i64 b, .int .i64 c]

/-- Three new blocks. -/
theorem three_blocks (w : World) (t : TypeId) (a b c : Array Value) : ∃ W, Blk W w.heap.size t a ∧ Blk W (w.heap.size + 1) t b ∧ Blk W (w.heap.size + 1 + 1) t c ∧ Below w.heap.size w W ∧ W = ((w.alloc (.cells a t)).alloc (.cells b t)).alloc (.cells c t) := by
  refine ⟨_, ((Blk.new w t a).alloc _).alloc _, ?_, ?_, (((Below.refl w.heap.size w).alloc (Nat.le_refl _) _).alloc (by simp) _).alloc (by simp; omega) _, rfl⟩
  · have := (Blk.new (w.alloc (.cells a t)) t b).alloc (.cells c t)
    simpa using this
  · have := Blk.new ((w.alloc (.cells a t)).alloc (.cells b t)) t c
    simpa using this

set_option maxRecDepth 100000 in
set_option maxHeartbeats 400000 in
theorem stamp_Compare (a0 a1 a2 b0 b1 b2 : Int) (w : World) :
    Calls Try.prog 64 #[.agg #[.int .i64 a0, .int .i64 a1, .int .i64 a2], .agg #[.int .i64 b0, .int .i64 b1, .int .i64 b2]] w fun e w' => e = .returned (.int .i64 (cmpS a0 a1 a2 b0 b1 b2)) ∧ Below w.heap.size w w' := by
  go_enter Try.func64, Try.ntmps64
  go_wp2
  generalize hW : (w.alloc (.cells #[.int .i64 a0, .int .i64 a1, .int .i64 a2] 30)).alloc (.cells #[.int .i64 b0, .int .i64 b1, .int .i64 b2] 30) = W
  have c0 : W.cell? ⟨w.heap.size, 0, none⟩ = some (.int .i64 a0) := by rw [← hW, World.cell?_alloc_lt _ _ _ (by simp)]; simp [World.cell?_alloc_new]
  have c1 : W.cell? ⟨w.heap.size, 1, none⟩ = some (.int .i64 a1) := by rw [← hW, World.cell?_alloc_lt _ _ _ (by simp)]; simp [World.cell?_alloc_new]
  have c2 : W.cell? ⟨w.heap.size, 2, none⟩ = some (.int .i64 a2) := by rw [← hW, World.cell?_alloc_lt _ _ _ (by simp)]; simp [World.cell?_alloc_new]
  have d0 : W.cell? ⟨w.heap.size + 1, 0, none⟩ = some (.int .i64 b0) := by
    rw [← hW]; simp
  have d1 : W.cell? ⟨w.heap.size + 1, 1, none⟩ = some (.int .i64 b1) := by
    rw [← hW]; simp
  have d2 : W.cell? ⟨w.heap.size + 1, 2, none⟩ = some (.int .i64 b2) := by
    rw [← hW]; simp
  have hb : Below w.heap.size w W := by rw [← hW]; exact ((Below.refl _ _).alloc (Nat.le_refl _) _).alloc (by simp) _
  have HB := Lib.hid hb
  clear hb hW
  refine wp_region_still_tail 15 (by kernel_rfl) (by kernel_rfl) ?_
  simp only [List.take_succ_cons, List.take_zero, List.drop_succ_cons, List.drop_zero]
  repeat (first | still_step | still_call ((cmp_Compare _ _ _).mono fun _ _ h => ⟨h.1, h.2.symm⟩))
  refine wpStill_nil ?_
  change wpList _ _ _ _ _ W.drew
  have HB2 : Hid (Below w.heap.size w W.drew) := Lib.hid (below_drewN HB.out 1)
  clear HB c0 c1 c2 d0 d1 d2
  generalize W.drew = W2 at HB2 ⊢
  go_wp2_with fail
  refine (cmp_Or3 _ W2.heap.size (cmpI a0 b0) (cmpI a1 b1) (cmpI a2 b2) ?h0 ?h1 ?h2).mono ?_
  case h0 => simp [World.cell?_alloc_new]
  case h1 => simp [World.cell?_alloc_new]
  case h2 => simp [World.cell?_alloc_new]
  rintro e w2 ⟨rfl, rfl⟩
  go_wp2_with fail
  go_ret
  exact ⟨rfl, HB2.out.alloc HB2.out.size _⟩

end Go.Proofs.Ytfkooohnaodjmaa
