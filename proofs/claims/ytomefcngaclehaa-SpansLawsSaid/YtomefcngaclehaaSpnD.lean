/- spans.Of's comparison; slices.SortFunc over spans. -/
import Derived.Test.YtomefcngaclehaaSpnC
namespace Go.Proofs.Ytomefcngaclehaa
open Go.RowKit Go.Sort
attribute [local go_sem] lt_T lo_T not_ltT not_leT ne_T

set_option maxRecDepth 100000 in
set_option maxHeartbeats 1000000 in
theorem of_cmp (a1 a2 b1 b2 : ByteArray) (w : World) : Calls Try.prog 52 #[.agg #[.string a1, .string a2], .agg #[.string b1, .string b2]] w fun e w' => e = .returned (.int .i64 (cmpP (a1, a2) (b1, b2))) ∧ ∃ q os', w' = grow (w.drewN q) os' := by
  obtain ⟨x, hx⟩ : ∃ x, cmpT a1 b1 = x := ⟨_, rfl⟩
  obtain ⟨y, hy⟩ : ∃ y, cmpT a2 b2 = y := ⟨_, rfl⟩
  have hz : cmpP (a1, a2) (b1, b2) = orL [x, y] := by unfold cmpP; rw [hx, hy]
  rw [hz]
  clear hz
  obtain ⟨z, hz⟩ : ∃ z, orL [x, y] = z := ⟨_, rfl⟩
  rw [hz]
  have HX := Lib.hid hx
  have HY := Lib.hid hy
  have HZ := Lib.hid hz
  clear hx hy hz
  have B0 := (Blk.new w 41 #[.string a1, .string a2]).alloc (.cells #[.string b1, .string b2] 41)
  have B1 := Blk.new (w.alloc (.cells #[.string a1, .string a2] 41)) 41 #[.string b1, .string b2]
  rw [World.size_alloc] at B1
  go_enter Try.func52, Try.ntmps52
  go_upto_region 1 with fail
  obtain ⟨W, hW⟩ : ∃ W, (w.alloc (.cells #[.string a1, .string a2] 41)).alloc (.cells #[.string b1, .string b2] 41) = W := ⟨_, rfl⟩
  rw [hW] at B0 B1 ⊢
  have HW := Lib.hid hW
  clear hW
  have q0 : ∀ p : Kept (fun _ => True) W.drew, p.v.cell? ⟨w.heap.size, 0, none⟩ = some (.string a1) := fun p => p.h.cell trivial (B0.cell 0)
  have q1 : ∀ p : Kept (fun _ => True) W.drew, p.v.cell? ⟨w.heap.size, 1, none⟩ = some (.string a2) := fun p => p.h.cell trivial (B0.cell 1)
  have q2 : ∀ p : Kept (fun _ => True) W.drew, p.v.cell? ⟨w.heap.size + 1, 0, none⟩ = some (.string b1) := fun p => p.h.cell trivial (B1.cell 0)
  have q3 : ∀ p : Kept (fun _ => True) W.drew, p.v.cell? ⟨w.heap.size + 1, 1, none⟩ = some (.string b2) := fun p => p.h.cell trivial (B1.cell 1)
  clear B0 B1
  refine wp_region_mixDk (M := []) (fun _ => True) [0, 1, 2, 3, 5, 6, 7, 8, 4, 9, 10, 11, 12] (by kernel_rfl) (by kernel_rfl) ?_
  iterate 8 (refine mix_calmDk rfl rfl ?_; go_big_quiet_step (fail); refine wpQuiet_nil ?_)
  refine mix_loudDk rfl (by kernel_rfl) rfl ?_
  intro K1 hK1
  have HK := Lib.hid hK1
  clear hK1 
  go_wp2_with fail
  refine (cmp_CompareS a1 b1 _).mono ?_
  rintro x w1 ⟨rfl, rfl⟩
  rw [HX.out]
  go_wp2_with fail
  refine HK.out _ _ (Stand.refl _ _) ?_
  clear HK
  refine mix_loudDk rfl (by kernel_rfl) rfl ?_
  intro K1 hK1
  have HK := Lib.hid hK1
  clear hK1 
  go_wp2_with fail
  refine (cmp_CompareS a2 b2 _).mono ?_
  rintro x w1 ⟨rfl, rfl⟩
  rw [HY.out]
  go_wp2_with fail
  refine HK.out _ _ (Stand.refl _ _) ?_
  clear HK
  refine mix_loudDk rfl (by kernel_rfl) rfl ?_
  intro K1 hK1
  have HK := Lib.hid hK1
  clear hK1 
  go_wp2_with fail
  refine HK.out _ _ ((Stand.refl _ _).alloc _) ?_
  clear HK
  have BO := Blk.new W.drew 3 #[.int .i64 x, .int .i64 y]
  refine mix_loudDk rfl (by kernel_rfl) rfl ?_
  intro K1 hK1
  have HK := Lib.hid hK1
  clear hK1 
  go_wp2_with fail
  refine (cmp_Or (W.drew.alloc (.cells #[.int .i64 x, .int .i64 y] 3)) W.drew.heap.size [x, y] 2 rfl (fun k z hz => match k, hz with | 0, hz => (by simp at hz; subst hz; exact BO.cell 0) | 1, hz => (by simp at hz; subst hz; exact BO.cell 1)) (by omega)).mono ?_
  rintro x w1 ⟨rfl, rfl⟩
  rw [HZ.out]
  go_wp2_with fail
  refine HK.out _ _ (Stand.refl _ _) ?_
  clear HK
  iterate 1 (refine mix_calmDk rfl rfl ?_; go_big_quiet_step (fail); refine wpQuiet_nil ?_)
  refine mix_endDk ?_
  go_wp2_with fail
  go_ret
  refine ⟨rfl, 1, #[.cells #[.string a1, .string a2] 41, .cells #[.string b1, .string b2] 41, .cells #[.int .i64 x, .int .i64 y] 3], ?_⟩
  rw [← HW.out]
  rfl
end Go.Proofs.Ytomefcngaclehaa
