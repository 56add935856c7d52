/- Walk of SpansHas. -/
import Derived.Test.YtomefcngaclehaaSpnV
namespace Go.Proofs.Ytomefcngaclehaa
open Go.RowKit Go.Sort
attribute [local go_sem] lt_T lo_T not_ltT not_leT

theorem inS_to (x1 x2 : ByteArray) : inS cmpT (x1, x2) x2 = false := by
  unfold inS
  have := cmp_T.self x2
  simp [this]
theorem inS_from (x1 x2 : ByteArray) : inS cmpT (x1, x2) x1 = ltT x1 x2 := by
  unfold inS ltT
  have := cmp_T.self x1
  simp [this]

set_option maxRecDepth 100000 in
set_option maxHeartbeats 4000000 in
theorem spans_has_walk (A : Option Addr) (n c : Nat) (l : List Sp) (x1 x2 : ByteArray) (w : World) (hr : RdP w A l) (hnl : l.length = n) (hA : A = none → c = 0) (hn0 : n ≤ 9223372036854775807) :
    Calls Try.prog 6 #[.slice A n c, .agg #[.string x1, .string x2]] w fun e w' => e = .returned (.bool true) ∧ Below w.heap.size w w' := by
  have HN := Lib.hid hnl
  obtain ⟨wA, hwA⟩ : ∃ wA, w.alloc (.cells #[.string x1, .string x2] 41) = wA := ⟨_, rfl⟩
  have BX : Blk wA w.heap.size 41 #[.string x1, .string x2] := by rw [← hwA]; exact Blk.new _ _ _
  have bA : Below w.heap.size w wA := by rw [← hwA]; exact (Below.refl _ _).alloc (Nat.le_refl _) _
  have HR := Lib.hid (hr.below bA)
  have HWA := Lib.hid hwA
  clear hr hnl hwA
  by_cases hn : n ≤ 30
  · go_enter Try.func6, Try.ntmps6
    go_upto_region 1 with fail
    rw [HWA.out]
    clear HWA
    go_wp2_with fail
    refine (spans_Of A n c l wA HR.out HN.out hA (by omega)).mono ?_
    rintro e w1 ⟨v1, rfl, o1, b1⟩
    have hl1 := ofS_len l
    obtain ⟨N, hN⟩ : ∃ N, (ofS l).length = N := ⟨_, rfl⟩
    have HNN := Lib.hid hN
    have hNn : N ≤ 30 := by rw [hN, HN.out] at hl1; omega
    obtain ⟨A1, c1, rfl, hA1, hr1⟩ := o1.named N hN
    have BX1 := BX.below b1 BX.lt
    have HR1 := Lib.hid (HR.out.below b1)
    have hB1 := bA.trans (b1.mono bA.size)
    obtain ⟨w2, hw2⟩ : ∃ w2, w1.alloc (.cells #[.slice A1 N c1] 43) = w2 := ⟨_, rfl⟩
    have b2 : Below w1.heap.size w1 w2 := by rw [← hw2]; exact (Below.refl _ _).alloc (Nat.le_refl _) _
    have BS2 : Blk w2 w1.heap.size 43 #[.slice A1 N c1] := by rw [← hw2]; exact Blk.new _ _ _
    have BX2 := BX1.below b2 BX1.lt
    have HR2 := Lib.hid (HR1.out.below b2)
    have HS2 := Lib.hid (hr1.below b2)
    have hB2 := hB1.trans (b2.mono hB1.size)
    have HW2 := Lib.hid hw2
    clear o1 hr1 hl1 hN hw2 BX BX1 HR HR1 b1 bA
    go_upto_region 4 with fail
    rw [HW2.out]
    clear HW2
    have q0 := BX2.cell 0
    have q1 := BX2.cell 1
    obtain ⟨w3, hw3⟩ : ∃ w3, w2.alloc (.cells #[.string x1, .string x2] 45) = w3 := ⟨_, rfl⟩
    have b3 : Below w2.heap.size w2 w3 := by rw [← hw3]; exact (Below.refl _ _).alloc (Nat.le_refl _) _
    have HO3 := Lib.hid (show RdP w3 (some ⟨w2.heap.size, 0, none⟩) [(x1, x2)] by rw [← hw3]; exact RdP.of_blk (Blk.new _ _ _) rfl)
    have BS3 := BS2.below b3 BS2.lt
    have BX3 := BX2.below b3 BX2.lt
    have HR3 := Lib.hid (HR2.out.below b3)
    have HS3 := Lib.hid (HS2.out.below b3)
    have hB3 := hB2.trans (b3.mono hB2.size)
    have HW3 := Lib.hid hw3
    clear hw3 BS2 BX2 HR2 HS2 b2 b3
    go_upto_region 5 with fail
    rw [HW3.out]
    clear HW3 q0 q1
    go_wp2_with fail
    refine (law46_mine A n c l w3 HR3.out HN.out (by omega)).mono ?_
    rintro e w4 ⟨v4, rfl, o4, b4⟩
    obtain ⟨A4, c4, rfl, hA4, hr4⟩ := o4.named n HN.out
    have HO4 := Lib.hid (HO3.out.below b4)
    have BS4 := BS3.below b4 BS3.lt
    have BX4 := BX3.below b4 BX3.lt
    have HR4 := Lib.hid (HR3.out.below b4)
    have HS4 := Lib.hid (HS3.out.below b4)
    have hB4 := hB3.trans (b4.mono hB3.size)
    have HM4 := Lib.hid hr4
    clear o4 hr4 b4 BS3 BX3 HR3 HS3 HO3
    go_wp2_with fail
    refine (ref46_Both (some ⟨w2.heap.size, 0, none⟩) A4 1 n 1 c4 [(x1, x2)] l 2 w4 (by omega) HO4.out HM4.out rfl HN.out (by omega) (by omega)).mono ?_
    rintro e w5 ⟨v5, rfl, o5, b5⟩
    have hcov := cov_rest l (x1, x2)
    obtain ⟨R, hR⟩ : ∃ R, bothL cmpT e0 [(x1, x2)] l 2 = R := ⟨_, rfl⟩
    rw [hR] at o5 hcov
    have BS5 := BS4.below b5 BS4.lt
    have BX5 := BX4.below b5 BX4.lt
    have HR5 := Lib.hid (HR4.out.below b5)
    have HS5 := Lib.hid (HS4.out.below b5)
    have hB5 := hB4.trans (b5.mono hB4.size)
    obtain ⟨M, hM⟩ : ∃ M, R.length = M := ⟨_, rfl⟩
    obtain ⟨A5, c5, rfl, hA5, hr5⟩ := o5.named M hM
    have hcv : covL cmpT (ofS l) (x1, x2) = ((M : Int) == 0) := by
      rw [hcov, ← hM, Bool.eq_iff_iff, decide_eq_true_iff, beq_iff_eq]
      exact ⟨fun h => by rw [h]; rfl, fun h => List.eq_nil_of_length_eq_zero (by omega)⟩
    have HCV := Lib.hid hcv
    clear o5 b5 hR hcov hM hr5 hcv BS4 BX4 HR4 HS4 HO4 HM4
    go_upto_region 6 with fail
    have bd : Below w5.heap.size w5 w5.drew := (Below.refl _ _).drew
    have BSd := BS5.below bd BS5.lt
    have BXd := BX5.below bd BX5.lt
    have HRd := Lib.hid (HR5.out.below bd)
    have HSd := Lib.hid (HS5.out.below bd)
    have hBd := hB5.trans (bd.mono hB5.size)
    have q0 : ∀ p : Kept (fun _ => True) w5.drew, p.v.cell? ⟨w1.heap.size, 0, none⟩ = some (.slice A1 N c1) := fun p => p.h.cell trivial (BSd.cell 0)
    have q1 : ∀ p : Kept (fun _ => True) w5.drew, p.v.cell? ⟨w.heap.size, 0, none⟩ = some (.string x1) := fun p => p.h.cell trivial (BXd.cell 0)
    have q2 : ∀ p : Kept (fun _ => True) w5.drew, p.v.cell? ⟨w.heap.size, 1, none⟩ = some (.string x2) := fun p => p.h.cell trivial (BXd.cell 1)
    clear bd BS5 BX5 HR5 HS5
    obtain ⟨W, hW⟩ : ∃ W, w5.drew = W := ⟨_, rfl⟩
    obtain ⟨i1, hi1⟩ : ∃ i1, inL cmpT l x1 = i1 := ⟨_, rfl⟩
    have HI1 := Lib.hid hi1
    clear hi1
    refine wp_region_mixDk (M := []) (fun _ => True) [0, 1, 2, 4, 6, 7, 3, 5, 8, 9, 10, 11, 12, 14, 15, 16, 13, 17, 18, 19, 20, 21, 22, 23, 24, 25, 26, 27, 28, 29, 31, 32, 33, 34, 35, 30, 36, 37, 38, 39, 40, 41] (by kernel_rfl) (by kernel_rfl) ?_
    rw [hW] at BSd BXd HRd HSd hBd q0 q1 q2 ⊢
    clear hW
    iterate 6 (refine mix_calmDk rfl rfl ?_; go_big_quiet_step (fail); refine wpQuiet_nil ?_)
    refine mix_loudDk rfl (by kernel_rfl) rfl ?_
    intro K1 hK1
    have HK := Lib.hid hK1
    clear hK1 
    go_wp2_with fail
    refine (set_Has A1 N c1 (ofS l) x1 W HSd.out HNN.out (ofS_canon l) (by omega)).mono ?_
    rintro x u1 ⟨rfl, bu1⟩
    have HRu1 := Lib.hid (HRd.out.below bu1)
    have HSu1 := Lib.hid (HSd.out.below bu1)
    have hBu1 := hBd.trans (bu1.mono hBd.size)
    have BSu1 := BSd.below bu1 BSd.lt
    have BXu1 := BXd.below bu1 BXd.lt
    replace q0 : ∀ p : Kept (fun _ => True) u1, p.v.cell? ⟨w1.heap.size, 0, none⟩ = some (.slice A1 N c1) := fun p => p.h.cell trivial (BSu1.cell 0)
    replace q1 : ∀ p : Kept (fun _ => True) u1, p.v.cell? ⟨w.heap.size, 0, none⟩ = some (.string x1) := fun p => p.h.cell trivial (BXu1.cell 0)
    replace q2 : ∀ p : Kept (fun _ => True) u1, p.v.cell? ⟨w.heap.size, 1, none⟩ = some (.string x2) := fun p => p.h.cell trivial (BXu1.cell 1)
    rw [ofS_in, HI1.out]
    go_wp2_with fail
    refine HK.out _ _ (Stand.of_below bu1) ?_
    clear HK
    refine mix_loudDk rfl (by kernel_rfl) rfl ?_
    intro K1 hK1
    have HK := Lib.hid hK1
    clear hK1 
    go_wp2_with fail
    refine (law46_mine A n c l u1 HRu1.out HN.out (by omega)).mono ?_
    rintro x u2 ⟨v6, rfl, o6, bu2⟩
    have HRu2 := Lib.hid (HRu1.out.below bu2)
    have HSu2 := Lib.hid (HSu1.out.below bu2)
    have hBu2 := hBu1.trans (bu2.mono hBu1.size)
    have BSu2 := BSu1.below bu2 BSu1.lt
    have BXu2 := BXu1.below bu2 BXu1.lt
    replace q0 : ∀ p : Kept (fun _ => True) u2, p.v.cell? ⟨w1.heap.size, 0, none⟩ = some (.slice A1 N c1) := fun p => p.h.cell trivial (BSu2.cell 0)
    replace q1 : ∀ p : Kept (fun _ => True) u2, p.v.cell? ⟨w.heap.size, 0, none⟩ = some (.string x1) := fun p => p.h.cell trivial (BXu2.cell 0)
    replace q2 : ∀ p : Kept (fun _ => True) u2, p.v.cell? ⟨w.heap.size, 1, none⟩ = some (.string x2) := fun p => p.h.cell trivial (BXu2.cell 1)
    obtain ⟨A6, c6, rfl, hA6, hr6⟩ := o6.named n HN.out
    have HM6 := Lib.hid hr6
    clear o6 hr6
    go_wp2_with fail
    refine HK.out _ _ (Stand.of_below bu2) ?_
    clear HK
    refine mix_loudDk rfl (by kernel_rfl) rfl ?_
    intro K1 hK1
    have HK := Lib.hid hK1
    clear hK1 
    go_wp2_with fail
    refine (ref46_Has A6 n c6 l x1 u2 HM6.out HN.out (by omega)).mono ?_
    rintro x u3 ⟨rfl, hu3⟩
    have bu3 : Below u2.heap.size u2 u3 := by rw [hu3]; exact Below.refl _ _
    clear hu3
    have HRu3 := Lib.hid (HRu2.out.below bu3)
    have HSu3 := Lib.hid (HSu2.out.below bu3)
    have hBu3 := hBu2.trans (bu3.mono hBu2.size)
    have BSu3 := BSu2.below bu3 BSu2.lt
    have BXu3 := BXu2.below bu3 BXu2.lt
    replace q0 : ∀ p : Kept (fun _ => True) u3, p.v.cell? ⟨w1.heap.size, 0, none⟩ = some (.slice A1 N c1) := fun p => p.h.cell trivial (BSu3.cell 0)
    replace q1 : ∀ p : Kept (fun _ => True) u3, p.v.cell? ⟨w.heap.size, 0, none⟩ = some (.string x1) := fun p => p.h.cell trivial (BXu3.cell 0)
    replace q2 : ∀ p : Kept (fun _ => True) u3, p.v.cell? ⟨w.heap.size, 1, none⟩ = some (.string x2) := fun p => p.h.cell trivial (BXu3.cell 1)
    rw [HI1.out]
    go_wp2_with fail
    refine HK.out _ _ (Stand.of_below bu3) ?_
    clear HK
    iterate 1 (refine mix_calmDk rfl rfl ?_; go_big_quiet_step (fail); refine wpQuiet_nil ?_)
    refine mix_calmDk rfl rfl ?_
    go_big_quiet_step (fail)
    refine wpQuiet_nil ?_
    iterate 5 (refine mix_calmDk rfl rfl ?_; go_big_quiet_step (fail); refine wpQuiet_nil ?_)
    refine mix_loudDk rfl (by kernel_rfl) rfl ?_
    intro K1 hK1
    have HK := Lib.hid hK1
    clear hK1 
    go_wp2_with fail
    refine (set_Covers A1 N c1 (ofS l) x1 x2 u3 HSu3.out HNN.out (by omega)).mono ?_
    rintro x u4 ⟨rfl, bu4⟩
    have HRu4 := Lib.hid (HRu3.out.below bu4)
    have HSu4 := Lib.hid (HSu3.out.below bu4)
    have hBu4 := hBu3.trans (bu4.mono hBu3.size)
    have BSu4 := BSu3.below bu4 BSu3.lt
    have BXu4 := BXu3.below bu4 BXu3.lt
    replace q0 : ∀ p : Kept (fun _ => True) u4, p.v.cell? ⟨w1.heap.size, 0, none⟩ = some (.slice A1 N c1) := fun p => p.h.cell trivial (BSu4.cell 0)
    replace q1 : ∀ p : Kept (fun _ => True) u4, p.v.cell? ⟨w.heap.size, 0, none⟩ = some (.string x1) := fun p => p.h.cell trivial (BXu4.cell 0)
    replace q2 : ∀ p : Kept (fun _ => True) u4, p.v.cell? ⟨w.heap.size, 1, none⟩ = some (.string x2) := fun p => p.h.cell trivial (BXu4.cell 1)
    rw [HCV.out]
    go_wp2_with fail
    refine HK.out _ _ (Stand.of_below bu4) ?_
    clear HK
    iterate 6 (refine mix_calmDk rfl rfl ?_; go_big_quiet_step (fail); refine wpQuiet_nil ?_)
    refine mix_loudDk rfl (by kernel_rfl) rfl ?_
    intro K1 hK1
    have HK := Lib.hid hK1
    clear hK1 
    go_wp2_with fail
    refine (span_Has x1 x2 x2 u4).mono ?_
    rintro x u5 ⟨rfl, bu5⟩
    have HRu5 := Lib.hid (HRu4.out.below bu5)
    have HSu5 := Lib.hid (HSu4.out.below bu5)
    have hBu5 := hBu4.trans (bu5.mono hBu4.size)
    have BSu5 := BSu4.below bu5 BSu4.lt
    have BXu5 := BXu4.below bu5 BXu4.lt
    replace q0 : ∀ p : Kept (fun _ => True) u5, p.v.cell? ⟨w1.heap.size, 0, none⟩ = some (.slice A1 N c1) := fun p => p.h.cell trivial (BSu5.cell 0)
    replace q1 : ∀ p : Kept (fun _ => True) u5, p.v.cell? ⟨w.heap.size, 0, none⟩ = some (.string x1) := fun p => p.h.cell trivial (BXu5.cell 0)
    replace q2 : ∀ p : Kept (fun _ => True) u5, p.v.cell? ⟨w.heap.size, 1, none⟩ = some (.string x2) := fun p => p.h.cell trivial (BXu5.cell 1)
    rw [inS_to]
    go_wp2_with fail
    refine HK.out _ _ (Stand.of_below bu5) ?_
    clear HK
    iterate 3 (refine mix_calmDk rfl rfl ?_; go_big_quiet_step (fail); refine wpQuiet_nil ?_)
    iterate 8 (refine mix_calmDk rfl rfl ?_; go_big_quiet_step (fail); refine wpQuiet_nil ?_)
    refine mix_loudDk rfl (by kernel_rfl) rfl ?_
    intro K1 hK1
    have HK := Lib.hid hK1
    clear hK1 
    go_wp2_with fail
    refine (span_Has x1 x2 x1 u5).mono ?_
    rintro x u6 ⟨rfl, bu6⟩
    have HRu6 := Lib.hid (HRu5.out.below bu6)
    have HSu6 := Lib.hid (HSu5.out.below bu6)
    have hBu6 := hBu5.trans (bu6.mono hBu5.size)
    have BSu6 := BSu5.below bu6 BSu5.lt
    have BXu6 := BXu5.below bu6 BXu5.lt
    replace q0 : ∀ p : Kept (fun _ => True) u6, p.v.cell? ⟨w1.heap.size, 0, none⟩ = some (.slice A1 N c1) := fun p => p.h.cell trivial (BSu6.cell 0)
    replace q1 : ∀ p : Kept (fun _ => True) u6, p.v.cell? ⟨w.heap.size, 0, none⟩ = some (.string x1) := fun p => p.h.cell trivial (BXu6.cell 0)
    replace q2 : ∀ p : Kept (fun _ => True) u6, p.v.cell? ⟨w.heap.size, 1, none⟩ = some (.string x2) := fun p => p.h.cell trivial (BXu6.cell 1)
    rw [inS_from]
    go_wp2_with fail
    refine HK.out _ _ (Stand.of_below bu6) ?_
    clear HK
    iterate 3 (refine mix_calmDk rfl rfl ?_; go_big_quiet_step (fail); refine wpQuiet_nil ?_)
    refine mix_loudDk rfl (by kernel_rfl) rfl ?_
    intro K1 hK1
    have HK := Lib.hid hK1
    clear hK1 
    go_wp2_with fail
    refine (law46_alive u6).mono ?_
    rintro x u7 ⟨rfl, bu7⟩
    have HRu7 := Lib.hid (HRu6.out.below bu7)
    have HSu7 := Lib.hid (HSu6.out.below bu7)
    have hBu7 := hBu6.trans (bu7.mono hBu6.size)
    have BSu7 := BSu6.below bu7 BSu6.lt
    have BXu7 := BXu6.below bu7 BXu6.lt
    replace q0 : ∀ p : Kept (fun _ => True) u7, p.v.cell? ⟨w1.heap.size, 0, none⟩ = some (.slice A1 N c1) := fun p => p.h.cell trivial (BSu7.cell 0)
    replace q1 : ∀ p : Kept (fun _ => True) u7, p.v.cell? ⟨w.heap.size, 0, none⟩ = some (.string x1) := fun p => p.h.cell trivial (BXu7.cell 0)
    replace q2 : ∀ p : Kept (fun _ => True) u7, p.v.cell? ⟨w.heap.size, 1, none⟩ = some (.string x2) := fun p => p.h.cell trivial (BXu7.cell 1)
    go_wp2_with fail
    refine HK.out _ _ (Stand.of_below bu7) ?_
    clear HK
    iterate 2 (refine mix_calmDk rfl rfl ?_; go_big_quiet_step (fail); refine wpQuiet_nil ?_)
    refine mix_endDk ?_
    go_wp2_with fail
    go_ret
    exact ⟨rfl, hBu7⟩
  · have hn2 : n > 30 := by omega
    go_enter Try.func6, Try.ntmps6
    go_upto_region 1 with fail
    rw [HWA.out]
    clear HWA
    go_wp2_with fail
    go_ret
    exact ⟨rfl, bA⟩
theorem spans_has_row (w : World) (A : Option Addr) (n c : Nat) (l : List Sp) (h1 : n ≤ c) (h2 : c ≤ maxLen) (hA : A = none → c = 0) (hl : l.length = n) (hr : RdP w A l) (x y : ByteArray) :
    Calls Try.prog 6 #[.slice A n c, .agg #[.string x, .string y]] w fun e w' => e = .returned (.bool true) ∧ Below w.heap.size w w' :=
  spans_has_walk A n c l x y w hr hl hA (by unfold maxLen at h2; omega)
end Go.Proofs.Ytomefcngaclehaa
