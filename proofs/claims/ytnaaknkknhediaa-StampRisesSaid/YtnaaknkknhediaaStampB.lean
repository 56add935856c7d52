/- Contracts of stamp.Compare. No condition. -/
import Derived.Test.YtnaaknkknhediaaStampA
import Derived.StillTailTactics
namespace Go.Proofs.Ytnaaknkknhediaa
open Go.RowKit Go.Sort

/-- How two stamps stand. -/
def cmpS (a0 a1 a2 b0 b1 b2 : Int) : Int := or3 (cmpI a0 b0) (cmpI a1 b1) (cmpI a2 b2)
/-- A stamp as a value. -/
def st (a b c : Int) : Value := .agg #[.int .i64 a, .int .i64 b, .int .i64 c]

/-- Three new blocks. -/
theorem three_blocks (w : World) (t : TypeId) (a b c : Array Value) : ∃ W, Blk W w.heap.size t a ∧ Blk W (w.heap.size + 1) t b ∧ Blk W (w.heap.size + 1 + 1) t c ∧ Below w.heap.size w W ∧ W = ((w.alloc (.cells a t)).alloc (.cells b t)).alloc (.cells c t) := by
  refine ⟨_, ((Blk.new w t a).alloc _).alloc _, ?_, ?_, (((Below.refl w.heap.size w).alloc (Nat.le_refl _) _).alloc (by simp) _).alloc (by simp; omega) _, rfl⟩
  · have := (Blk.new (w.alloc (.cells a t)) t b).alloc (.cells c t)
    simpa using this
  · have := Blk.new ((w.alloc (.cells a t)).alloc (.cells b t)) t c
    simpa using this

set_option maxRecDepth 100000 in
set_option maxHeartbeats 400000 in
theorem stamp_Compare (a0 a1 a2 b0 b1 b2 : Int) (w : World) :
    Calls Try.prog 43 #[.agg #[.int .i64 a0, .int .i64 a1, .int .i64 a2], .agg #[.int .i64 b0, .int .i64 b1, .int .i64 b2]] w fun e w' => e = .returned (.int .i64 (cmpS a0 a1 a2 b0 b1 b2)) ∧ Below w.heap.size w w' := by
  go_enter Try.func43, Try.ntmps43
  go_wp2
  generalize hW : (w.alloc (.cells #[.int .i64 a0, .int .i64 a1, .int .i64 a2] 51)).alloc (.cells #[.int .i64 b0, .int .i64 b1, .int .i64 b2] 51) = W
  have c0 : W.cell? ⟨w.heap.size, 0, none⟩ = some (.int .i64 a0) := by rw [← hW, World.cell?_alloc_lt _ _ _ (by simp)]; simp [World.cell?_alloc_new]
  have c1 : W.cell? ⟨w.heap.size, 1, none⟩ = some (.int .i64 a1) := by rw [← hW, World.cell?_alloc_lt _ _ _ (by simp)]; simp [World.cell?_alloc_new]
  have c2 : W.cell? ⟨w.heap.size, 2, none⟩ = some (.int .i64 a2) := by rw [← hW, World.cell?_alloc_lt _ _ _ (by simp)]; simp [World.cell?_alloc_new]
  have d0 : W.cell? ⟨w.heap.size + 1, 0, none⟩ = some (.int .i64 b0) := by
    rw [← hW]; simp
  have d1 : W.cell? ⟨w.heap.size + 1, 1, none⟩ = some (.int .i64 b1) := by
    rw [← hW]; simp
  have d2 : W.cell? ⟨w.heap.size + 1, 2, none⟩ = some (.int .i64 b2) := by
    rw [← hW]; simp
  have hb : Below w.heap.size w W := by rw [← hW]; exact ((Below.refl _ _).alloc (Nat.le_refl _) _).alloc (by simp) _
  have HB := Lib.hid hb
  clear hb hW
  refine wp_region_still_tail 15 (by kernel_rfl) (by kernel_rfl) ?_
  simp only [List.take_succ_cons, List.take_zero, List.drop_succ_cons, List.drop_zero]
  repeat (first | still_step | still_call ((cmp_Compare _ _ _).mono fun _ _ h => ⟨h.1, h.2.symm⟩))
  refine wpStill_nil ?_
  change wpList _ _ _ _ _ W.drew
  have HB2 : Hid (Below w.heap.size w W.drew) := Lib.hid (below_drewN HB.out 1)
  clear HB c0 c1 c2 d0 d1 d2
  generalize W.drew = W2 at HB2 ⊢
  go_wp2_with fail
  refine (cmp_Or3 _ W2.heap.size (cmpI a0 b0) (cmpI a1 b1) (cmpI a2 b2) ?h0 ?h1 ?h2).mono ?_
  case h0 => simp [World.cell?_alloc_new]
  case h1 => simp [World.cell?_alloc_new]
  case h2 => simp [World.cell?_alloc_new]
  rintro e w2 ⟨rfl, rfl⟩
  go_wp2_with fail
  go_ret
  exact ⟨rfl, HB2.out.alloc HB2.out.size _⟩

set_option maxRecDepth 100000 in
set_option maxHeartbeats 400000 in
theorem stamp_Less (a0 a1 a2 b0 b1 b2 : Int) (w : World) :
    Calls Try.prog 45 #[.agg #[.int .i64 a0, .int .i64 a1, .int .i64 a2], .agg #[.int .i64 b0, .int .i64 b1, .int .i64 b2]] w fun e w' => e = .returned (.bool (decide (cmpS a0 a1 a2 b0 b1 b2 < 0))) ∧ Below w.heap.size w w' := by
  go_enter Try.func45, Try.ntmps45
  go_wp2_with fail
  refine (stamp_Compare a0 a1 a2 b0 b1 b2 _).mono ?_
  rintro e w1 ⟨rfl, hb⟩
  have HB := Lib.hid (Below.trans (((Below.refl w.heap.size w).alloc (Nat.le_refl _) (.cells #[.int .i64 a0, .int .i64 a1, .int .i64 a2] 51)).alloc (by simp) (.cells #[.int .i64 b0, .int .i64 b1, .int .i64 b2] 51)) (hb.mono (by simp; omega)))
  clear hb
  go_wp2_with fail
  go_ret
  exact ⟨rfl, HB.out⟩

set_option maxRecDepth 100000 in
set_option maxHeartbeats 400000 in
theorem stamp_Max (a0 a1 a2 b0 b1 b2 : Int) (w : World) :
    Calls Try.prog 47 #[.agg #[.int .i64 a0, .int .i64 a1, .int .i64 a2], .agg #[.int .i64 b0, .int .i64 b1, .int .i64 b2]] w fun e w' =>
      e = .returned (if cmpS a0 a1 a2 b0 b1 b2 < 0 then .agg #[.int .i64 b0, .int .i64 b1, .int .i64 b2] else .agg #[.int .i64 a0, .int .i64 a1, .int .i64 a2]) ∧ Below w.heap.size w w' := by
  have hcase : (cmpS a0 a1 a2 b0 b1 b2 < 0 ∧ decide (cmpS a0 a1 a2 b0 b1 b2 < 0) = true) ∨ (¬ cmpS a0 a1 a2 b0 b1 b2 < 0 ∧ decide (cmpS a0 a1 a2 b0 b1 b2 < 0) = false) := by simp; omega
  rcases hcase with ⟨h, hd⟩ | ⟨h, hd⟩
  · rw [if_pos h]
    clear h
    go_enter Try.func47, Try.ntmps47
    go_wp2_with fail
    obtain ⟨W, B0, B1, B2, hW, hE⟩ := three_blocks w 51 #[.int .i64 a0, .int .i64 a1, .int .i64 a2] #[.int .i64 b0, .int .i64 b1, .int .i64 b2] #[.int .i64 0, .int .i64 0, .int .i64 0]
    rw [← hE]
    clear hE
    refine (stamp_Less a0 a1 a2 b0 b1 b2 _).mono ?_
    rintro e w1 ⟨rfl, hb⟩
    have C0 := (B0.below hb B0.lt).cell
    have C1 := (B1.below hb B1.lt).cell
    have D := (B2.below hb B2.lt)
    have C2 := D.cell
    have F2 := D.frozen
    have D1 := (D.set_ 0 (.int .i64 b0)).cell
    have D2 := ((D.set_ 0 (.int .i64 b0)).set_ 1 (.int .i64 b1)).cell
    have D3 := (((D.set_ 0 (.int .i64 b0)).set_ 1 (.int .i64 b1)).set_ 2 (.int .i64 b2)).cell
    simp at D1 D2 D3
    have HB := Lib.hid (hW.trans (hb.mono hW.size))
    clear hb hW B0 B1 B2 D
    rw [hd]
    go_wp2_with fail
    (try simp only [Exit.inBlock, Exit.then])
    refine bodyPost_ret (v := .agg #[.int .i64 b0, .int .i64 b1, .int .i64 b2]) (by simp [results, Try.results47, go_sem, D3]) rfl ⟨rfl, ?_⟩
    exact ((HB.out.setCell (p := ⟨w.heap.size + 1 + 1, 0, none⟩) (by simp; omega) _).setCell (p := ⟨w.heap.size + 1 + 1, 1, none⟩) (by simp; omega) _).setCell (p := ⟨w.heap.size + 1 + 1, 2, none⟩) (by simp; omega) _
  · rw [if_neg h]
    clear h
    go_enter Try.func47, Try.ntmps47
    go_wp2_with fail
    obtain ⟨W, B0, B1, B2, hW, hE⟩ := three_blocks w 51 #[.int .i64 a0, .int .i64 a1, .int .i64 a2] #[.int .i64 b0, .int .i64 b1, .int .i64 b2] #[.int .i64 0, .int .i64 0, .int .i64 0]
    rw [← hE]
    clear hE
    refine (stamp_Less a0 a1 a2 b0 b1 b2 _).mono ?_
    rintro e w1 ⟨rfl, hb⟩
    have C0 := (B0.below hb B0.lt).cell
    have C1 := (B1.below hb B1.lt).cell
    have D := (B2.below hb B2.lt)
    have C2 := D.cell
    have F2 := D.frozen
    have D1 := (D.set_ 0 (.int .i64 a0)).cell
    have D2 := ((D.set_ 0 (.int .i64 a0)).set_ 1 (.int .i64 a1)).cell
    have D3 := (((D.set_ 0 (.int .i64 a0)).set_ 1 (.int .i64 a1)).set_ 2 (.int .i64 a2)).cell
    simp at D1 D2 D3
    have HB := Lib.hid (hW.trans (hb.mono hW.size))
    clear hb hW B0 B1 B2 D
    rw [hd]
    go_wp2_with fail
    (try simp only [Exit.inBlock, Exit.then])
    refine bodyPost_ret (v := .agg #[.int .i64 a0, .int .i64 a1, .int .i64 a2]) (by simp [results, Try.results47, go_sem, D3]) rfl ⟨rfl, ?_⟩
    exact ((HB.out.setCell (p := ⟨w.heap.size + 1 + 1, 0, none⟩) (by simp; omega) _).setCell (p := ⟨w.heap.size + 1 + 1, 1, none⟩) (by simp; omega) _).setCell (p := ⟨w.heap.size + 1 + 1, 2, none⟩) (by simp; omega) _
end Go.Proofs.Ytnaaknkknhediaa
