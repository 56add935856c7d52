/- Contracts of stamp.Compare. No condition. -/
import Derived.Test.YtedegdojbhegdaaStampA
import Derived.StillTailTactics
namespace Go.Proofs.Ytedegdojbhegdaa
open Go.RowKit Go.Sort

/-- How two stamps stand. -/
def cmpS (a0 a1 a2 b0 b1 b2 : Int) : Int := or3 (cmpI a0 b0) (cmpI a1 b1) (cmpI a2 b2)
/-- A stamp as a value. -/
def st (a b c : Int) : Value := .agg #[.int .i64 a, .int .i64 b, .int .i64 c]

/-- Three new blocks. -/
theorem three_blocks (w : World) (t : TypeId) (a b c : Array Value) : ∃ W, Blk W w.heap.size t a ∧ Blk W (w.heap.size + 1) t b ∧ Blk W (w.heap.size + 1 + 1) t c ∧ Below w.heap.size w W ∧ W = ((w.alloc (.cells a t)).alloc (.cells b t)).alloc (.cells c t) := by
  refine ⟨_, ((Blk.new w t a).alloc _).alloc _, ?_, ?_, (((Below.refl w.heap.size w).alloc (Nat.le_refl _) _).alloc (by simp) _).alloc (by simp; omega) _, rfl⟩
  · have := (Blk.new (w.alloc (.cells a t)) t b).alloc (.cells c t)
    simpa using this
  · have := Blk.new ((w.alloc (.cells a t)).alloc (.cells b t)) t c
    simpa using this

set_option maxRecDepth 100000 in
set_option maxHeartbeats 400000 in
theorem stamp_Compare (a0 a1 a2 b0 b1 b2 : Int) (w : World) :
    Calls Try.prog 82 #[.agg #[.int .i64 a0, .int .i64 a1, .int .i64 a2], .agg #[.int .i64 b0, .int .i64 b1, .int .i64 b2]] w fun e w' => e = .returned (.int .i64 (cmpS a0 a1 a2 b0 b1 b2)) ∧ Below w.heap.size w w' := by
  go_enter Try.func82, Try.ntmps82
  go_wp2
  generalize hW : (w.alloc (.cells #[.int .i64 a0, .int .i64 a1, .int .i64 a2] 24)).alloc (.cells #[.int .i64 b0, .int .i64 b1, .int .i64 b2] 24) = W
  have c0 : W.cell? ⟨w.heap.size, 0, none⟩ = some (.int .i64 a0) := by rw [← hW, World.cell?_alloc_lt _ _ _ (by simp)]; simp [World.cell?_alloc_new]
  have c1 : W.cell? ⟨w.heap.size, 1, none⟩ = some (.int .i64 a1) := by rw [← hW, World.cell?_alloc_lt _ _ _ (by simp)]; simp [World.cell?_alloc_new]
  have c2 : W.cell? ⟨w.heap.size, 2, none⟩ = some (.int .i64 a2) := by rw [← hW, World.cell?_alloc_lt _ _ _ (by simp)]; simp [World.cell?_alloc_new]
  have d0 : W.cell? ⟨w.heap.size + 1, 0, none⟩ = some (.int .i64 b0) := by
    rw [← hW]; simp
  have d1 : W.cell? ⟨w.heap.size + 1, 1, none⟩ = some (.int .i64 b1) := by
    rw [← hW]; simp
  have d2 : W.cell? ⟨w.heap.size + 1, 2, none⟩ = some (.int .i64 b2) := by
    rw [← hW]; simp
  have hb : Below w.heap.size w W := by rw [← hW]; exact ((Below.refl _ _).alloc (Nat.le_refl _) _).alloc (by simp) _
  have HB := Lib.hid hb
  clear hb hW
  refine wp_region_still_tail 15 (by kernel_rfl) (by kernel_rfl) ?_
  simp only [List.take_succ_cons, List.take_zero, List.drop_succ_cons, List.drop_zero]
  repeat (first | still_step | still_call ((cmp_Compare _ _ _).mono fun _ _ h => ⟨h.1, h.2.symm⟩))
  refine wpStill_nil ?_
  change wpList _ _ _ _ _ W.drew
  have HB2 : Hid (Below w.heap.size w W.drew) := Lib.hid (below_drewN HB.out 1)
  clear HB c0 c1 c2 d0 d1 d2
  generalize W.drew = W2 at HB2 ⊢
  go_wp2_with fail
  refine (cmp_Or3 _ W2.heap.size (cmpI a0 b0) (cmpI a1 b1) (cmpI a2 b2) ?h0 ?h1 ?h2).mono ?_
  case h0 => simp [World.cell?_alloc_new]
  case h1 => simp [World.cell?_alloc_new]
  case h2 => simp [World.cell?_alloc_new]
  rintro e w2 ⟨rfl, rfl⟩
  go_wp2_with fail
  go_ret
  exact ⟨rfl, HB2.out.alloc HB2.out.size _⟩

end Go.Proofs.Ytedegdojbhegdaa
