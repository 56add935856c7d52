/- Walk of SpansSets. -/
import Derived.Test.YtomefcngaclehaaSpnV
namespace Go.Proofs.Ytomefcngaclehaa
open Go.RowKit Go.Sort

set_option maxRecDepth 100000 in
set_option maxHeartbeats 8000000 in
theorem spans_sets_walk (A B : Option Addr) (n m c d : Nat) (l k : List Sp) (w : World) (hr : RdP w A l) (hr2 : RdP w B k) (hnl : l.length = n) (hmk : k.length = m) (hA : A = none → c = 0) (hB : B = none → d = 0) (hn0 : n ≤ 9223372036854775807) (hm0 : m ≤ 9223372036854775807) :
    Calls Try.prog 7 #[.slice A n c, .slice B m d] w fun e w' => e = .returned (.bool true) ∧ Below w.heap.size w w' := by
  have HN := Lib.hid hnl
  have HM := Lib.hid hmk
  have HL := Lib.hid hr
  have HK := Lib.hid hr2
  clear hr hr2 hnl hmk
  by_cases hn : n ≤ 30
  · by_cases hm : m ≤ 30
    · go_enter Try.func7, Try.ntmps7
      go_wp2_with fail
      refine (spans_Of A n c l w HL.out HN.out hA (by omega)).mono ?_
      rintro e w1 ⟨v1, rfl, o1, b1⟩
      have hx1 := ofS_len l
      have hc1 := ofS_canon l
      obtain ⟨x, hx⟩ : ∃ x, ofS l = x := ⟨_, rfl⟩
      rw [hx] at o1 hx1 hc1
      have HX := Lib.hid hx
      clear hx
      obtain ⟨nx, hnx⟩ : ∃ nx, x.length = nx := ⟨_, rfl⟩
      obtain ⟨Ax, cx, rfl, hAx, hrx⟩ := o1.named nx hnx
      have HNX := Lib.hid hnx
      have hnx30 : nx ≤ 30 := by rw [hnx, HN.out] at hx1; omega
      have HXR := Lib.hid hrx
      have HCX := Lib.hid hc1
      replace HL := Lib.hid (HL.out.below b1)
      replace HK := Lib.hid (HK.out.below b1)
      clear o1 hx1 hc1 hnx hrx
      go_wp2_with fail
      refine (spans_Of B m d k w1 HK.out HM.out hB (by omega)).mono ?_
      rintro e w2 ⟨v2, rfl, o2, b2⟩
      have hy1 := ofS_len k
      have hc2 := ofS_canon k
      obtain ⟨y, hy⟩ : ∃ y, ofS k = y := ⟨_, rfl⟩
      rw [hy] at o2 hy1 hc2
      have HY := Lib.hid hy
      clear hy
      obtain ⟨ny, hny⟩ : ∃ ny, y.length = ny := ⟨_, rfl⟩
      obtain ⟨Ay, cy, rfl, hAy, hry⟩ := o2.named ny hny
      have HNY := Lib.hid hny
      have hny30 : ny ≤ 30 := by rw [hny, HM.out] at hy1; omega
      have HYR := Lib.hid hry
      have HCY := Lib.hid hc2
      replace HL := Lib.hid (HL.out.below b2)
      replace HK := Lib.hid (HK.out.below b2)
      replace HXR := Lib.hid (HXR.out.below b2)
      have hBw := b1.trans (b2.mono b1.size)
      clear o2 hy1 hc2 hny hry b1 b2
      go_upto_region 4 with fail
      obtain ⟨w3, hw3⟩ : ∃ w3, (w2.alloc (.cells #[.slice Ax nx cx] 43)).alloc (.cells #[.slice Ay ny cy] 43) = w3 := ⟨_, rfl⟩
      have b3 : Below w2.heap.size w2 w3 := by rw [← hw3]; exact ((Below.refl _ _).alloc (Nat.le_refl _) _).alloc (by rw [World.size_alloc]; omega) _
      have BX : Blk w3 w2.heap.size 43 #[.slice Ax nx cx] := by rw [← hw3]; exact (Blk.new _ _ _).alloc _
      have BY : Blk w3 (w2.heap.size + 1) 43 #[.slice Ay ny cy] := by rw [← hw3, ← World.size_alloc w2 (.cells #[.slice Ax nx cx] 43)]; exact Blk.new _ _ _
      have HW3 := Lib.hid hw3
      clear hw3
      rw [HW3.out]
      clear HW3
      replace HL := Lib.hid (HL.out.below b3)
      replace HK := Lib.hid (HK.out.below b3)
      replace HXR := Lib.hid (HXR.out.below b3)
      replace HYR := Lib.hid (HYR.out.below b3)
      replace hBw := hBw.trans (b3.mono hBw.size)
      clear b3
      have q0 := BX.cell 0
      have q1 := BY.cell 0
      go_wp2_with fail
      refine (law46_mine A n c l w3 HL.out HN.out (by omega)).mono ?_
      rintro e w4 ⟨v, rfl, o1, b⟩
      clear q0 q1
      replace HL := Lib.hid (HL.out.below b)
      replace HK := Lib.hid (HK.out.below b)
      replace HXR := Lib.hid (HXR.out.below b)
      replace HYR := Lib.hid (HYR.out.below b)
      replace BX := BX.below b BX.lt
      replace BY := BY.below b BY.lt
      replace hBw := hBw.trans (b.mono hBw.size)
      obtain ⟨Am, cm, rfl, hAm, hrAm⟩ := o1.named n HN.out
      have HML := Lib.hid hrAm
      clear o1 hrAm
      clear b
      have q0 := BX.cell 0
      have q1 := BY.cell 0
      go_wp2_with fail
      refine (law46_mine B m d k w4 HK.out HM.out (by omega)).mono ?_
      rintro e w5 ⟨v, rfl, o1, b⟩
      clear q0 q1
      replace HL := Lib.hid (HL.out.below b)
      replace HK := Lib.hid (HK.out.below b)
      replace HXR := Lib.hid (HXR.out.below b)
      replace HYR := Lib.hid (HYR.out.below b)
      replace HML := Lib.hid (HML.out.below b)
      replace BX := BX.below b BX.lt
      replace BY := BY.below b BY.lt
      replace hBw := hBw.trans (b.mono hBw.size)
      obtain ⟨An, cn, rfl, hAn, hrAn⟩ := o1.named m HM.out
      have HMK := Lib.hid hrAn
      clear o1 hrAn
      clear b
      have q0 := BX.cell 0
      have q1 := BY.cell 0
      go_wp2_with fail
      refine (ref46_Both Am none n 0 cm 0 l [] 0 w5 (by omega) HML.out (RdP.nil_ _ _) HN.out rfl (by omega) (by omega)).mono ?_
      rintro e w6 ⟨v, rfl, o1, b⟩
      clear q0 q1
      replace HL := Lib.hid (HL.out.below b)
      replace HK := Lib.hid (HK.out.below b)
      replace HXR := Lib.hid (HXR.out.below b)
      replace HYR := Lib.hid (HYR.out.below b)
      replace HML := Lib.hid (HML.out.below b)
      replace HMK := Lib.hid (HMK.out.below b)
      replace BX := BX.below b BX.lt
      replace BY := BY.below b BY.lt
      replace hBw := hBw.trans (b.mono hBw.size)
      rw [both_one, HX.out] at o1
      obtain ⟨Au, cu, rfl, hAu, hrAu⟩ := o1.named nx HNX.out
      have HU := Lib.hid hrAu
      clear o1 hrAu
      clear b
      have q0 := BX.cell 0
      have q1 := BY.cell 0
      go_wp2_with fail
      refine (ref46_Both An none m 0 cn 0 k [] 0 w6 (by omega) HMK.out (RdP.nil_ _ _) HM.out rfl (by omega) (by omega)).mono ?_
      rintro e w7 ⟨v, rfl, o1, b⟩
      clear q0 q1
      replace HL := Lib.hid (HL.out.below b)
      replace HK := Lib.hid (HK.out.below b)
      replace HXR := Lib.hid (HXR.out.below b)
      replace HYR := Lib.hid (HYR.out.below b)
      replace HML := Lib.hid (HML.out.below b)
      replace HMK := Lib.hid (HMK.out.below b)
      replace HU := Lib.hid (HU.out.below b)
      replace BX := BX.below b BX.lt
      replace BY := BY.below b BY.lt
      replace hBw := hBw.trans (b.mono hBw.size)
      rw [both_one, HY.out] at o1
      obtain ⟨Av, cv, rfl, hAv, hrAv⟩ := o1.named ny HNY.out
      have HV := Lib.hid hrAv
      clear o1 hrAv
      clear b
      have q0 := BX.cell 0
      have q1 := BY.cell 0
      go_wp2_with fail
      refine (law46_is Ax Au nx nx cx cu x x w7 HXR.out HU.out HNX.out HNX.out hAx (by omega) (by omega)).mono ?_
      rintro e w8 ⟨rfl, b⟩
      clear q0 q1
      replace HL := Lib.hid (HL.out.below b)
      replace HK := Lib.hid (HK.out.below b)
      replace HXR := Lib.hid (HXR.out.below b)
      replace HYR := Lib.hid (HYR.out.below b)
      replace HML := Lib.hid (HML.out.below b)
      replace HMK := Lib.hid (HMK.out.below b)
      replace HU := Lib.hid (HU.out.below b)
      replace HV := Lib.hid (HV.out.below b)
      replace BX := BX.below b BX.lt
      replace BY := BY.below b BY.lt
      replace hBw := hBw.trans (b.mono hBw.size)
      rw [show decide (x = x) = true by simp]
      clear b
      have q0 := BX.cell 0
      have q1 := BY.cell 0
      go_wp2_with fail
      refine (law46_is Ay Av ny ny cy cv y y w8 HYR.out HV.out HNY.out HNY.out hAy (by omega) (by omega)).mono ?_
      rintro e w9 ⟨rfl, b⟩
      clear q0 q1
      replace HL := Lib.hid (HL.out.below b)
      replace HK := Lib.hid (HK.out.below b)
      replace HXR := Lib.hid (HXR.out.below b)
      replace HYR := Lib.hid (HYR.out.below b)
      replace HML := Lib.hid (HML.out.below b)
      replace HMK := Lib.hid (HMK.out.below b)
      replace HU := Lib.hid (HU.out.below b)
      replace HV := Lib.hid (HV.out.below b)
      replace BX := BX.below b BX.lt
      replace BY := BY.below b BY.lt
      replace hBw := hBw.trans (b.mono hBw.size)
      rw [show decide (y = y) = true by simp]
      clear b
      obtain ⟨sm, hsm⟩ : ∃ sm, decide (x = y) = sm := ⟨_, rfl⟩
      have HSM := Lib.hid hsm
      clear hsm
      have q0 := BX.cell 0
      have q1 := BY.cell 0
      go_wp2_with fail
      refine (set_Same Ax Ay nx ny cx cy x y w9 HXR.out HYR.out HNX.out HNY.out (by omega) (by omega)).mono ?_
      rintro e w10 ⟨rfl, b⟩
      clear q0 q1
      replace HL := Lib.hid (HL.out.below b)
      replace HK := Lib.hid (HK.out.below b)
      replace HXR := Lib.hid (HXR.out.below b)
      replace HYR := Lib.hid (HYR.out.below b)
      replace HML := Lib.hid (HML.out.below b)
      replace HMK := Lib.hid (HMK.out.below b)
      replace HU := Lib.hid (HU.out.below b)
      replace HV := Lib.hid (HV.out.below b)
      replace BX := BX.below b BX.lt
      replace BY := BY.below b BY.lt
      replace hBw := hBw.trans (b.mono hBw.size)
      rw [HSM.out]
      clear b
      have q0 := BX.cell 0
      have q1 := BY.cell 0
      go_wp2_with fail
      refine (s46_Equal Au Av nx ny cu cv x y w10 HU.out HV.out HNX.out HNY.out (by omega) (by omega)).mono ?_
      rintro e w11 ⟨rfl, b⟩
      clear q0 q1
      replace HL := Lib.hid (HL.out.below b)
      replace HK := Lib.hid (HK.out.below b)
      replace HXR := Lib.hid (HXR.out.below b)
      replace HYR := Lib.hid (HYR.out.below b)
      replace HML := Lib.hid (HML.out.below b)
      replace HMK := Lib.hid (HMK.out.below b)
      replace HU := Lib.hid (HU.out.below b)
      replace HV := Lib.hid (HV.out.below b)
      replace BX := BX.below b BX.lt
      replace BY := BY.below b BY.lt
      replace hBw := hBw.trans (b.mono hBw.size)
      rw [HSM.out]
      have hss : (sm != sm) = false := by cases sm <;> rfl
      clear b
      have hle := ofS_len (x ++ y)
      have hbt := both_join l k
      rw [HX.out, HY.out] at hbt
      obtain ⟨z0, hz⟩ : ∃ z, ofS (x ++ y) = z := ⟨_, rfl⟩
      rw [hz] at hle hbt
      have Hz0E := Lib.hid hz
      have HBT := Lib.hid hbt
      obtain ⟨nz0, hnz⟩ : ∃ n, z0.length = n := ⟨_, rfl⟩
      have hnz2 : nz0 ≤ 40000 := by
        rw [hnz] at hle
        rw [List.length_append, HNX.out, HNY.out] at hle
        omega
      have HNz0 := Lib.hid hnz
      clear hz hbt hnz hle
      have q0 := BX.cell 0
      have q1 := BY.cell 0
      go_wp2_with fail
      refine (spans_Join Ax Ay nx ny cx cy x y w11 HXR.out HYR.out HNX.out HNY.out (by omega) (by omega)).mono ?_
      rintro e w12 ⟨v, rfl, o1, b⟩
      clear q0 q1
      replace HL := Lib.hid (HL.out.below b)
      replace HK := Lib.hid (HK.out.below b)
      replace HXR := Lib.hid (HXR.out.below b)
      replace HYR := Lib.hid (HYR.out.below b)
      replace HML := Lib.hid (HML.out.below b)
      replace HMK := Lib.hid (HMK.out.below b)
      replace HU := Lib.hid (HU.out.below b)
      replace HV := Lib.hid (HV.out.below b)
      replace BX := BX.below b BX.lt
      replace BY := BY.below b BY.lt
      replace hBw := hBw.trans (b.mono hBw.size)
      rw [Hz0E.out] at o1
      obtain ⟨Az0, cz0, rfl, hAz0, hrAz0⟩ := o1.named nz0 HNz0.out
      have HRz0 := Lib.hid hrAz0
      clear o1 hrAz0
      clear b
      have q0 := BX.cell 0
      have q1 := BY.cell 0
      go_wp2_with fail
      refine (ref46_Both Am An n m cm cn l k 0 w12 (by omega) HML.out HMK.out HN.out HM.out (by omega) (by omega)).mono ?_
      rintro e w13 ⟨v, rfl, o1, b⟩
      clear q0 q1
      replace HL := Lib.hid (HL.out.below b)
      replace HK := Lib.hid (HK.out.below b)
      replace HXR := Lib.hid (HXR.out.below b)
      replace HYR := Lib.hid (HYR.out.below b)
      replace HML := Lib.hid (HML.out.below b)
      replace HMK := Lib.hid (HMK.out.below b)
      replace HU := Lib.hid (HU.out.below b)
      replace HV := Lib.hid (HV.out.below b)
      replace HRz0 := Lib.hid (HRz0.out.below b)
      replace BX := BX.below b BX.lt
      replace BY := BY.below b BY.lt
      replace hBw := hBw.trans (b.mono hBw.size)
      rw [HBT.out] at o1
      obtain ⟨Bz0, dz0, rfl, hBz0, hrBz0⟩ := o1.named nz0 HNz0.out
      have HSz0 := Lib.hid hrBz0
      clear o1 hrBz0
      clear b
      have q0 := BX.cell 0
      have q1 := BY.cell 0
      go_wp2_with fail
      refine (law46_is Az0 Bz0 nz0 nz0 cz0 dz0 z0 z0 w13 HRz0.out HSz0.out HNz0.out HNz0.out hAz0 (by omega) (by omega)).mono ?_
      rintro e w14 ⟨rfl, b⟩
      clear q0 q1
      replace HL := Lib.hid (HL.out.below b)
      replace HK := Lib.hid (HK.out.below b)
      replace HXR := Lib.hid (HXR.out.below b)
      replace HYR := Lib.hid (HYR.out.below b)
      replace HML := Lib.hid (HML.out.below b)
      replace HMK := Lib.hid (HMK.out.below b)
      replace HU := Lib.hid (HU.out.below b)
      replace HV := Lib.hid (HV.out.below b)
      replace HRz0 := Lib.hid (HRz0.out.below b)
      replace HSz0 := Lib.hid (HSz0.out.below b)
      replace BX := BX.below b BX.lt
      replace BY := BY.below b BY.lt
      replace hBw := hBw.trans (b.mono hBw.size)
      rw [show decide (z0 = z0) = true by simp]
      clear b
      have hle := ofS_len (meetL cmpT x y)
      have hbt := both_meet l k
      rw [HX.out, HY.out] at hbt
      obtain ⟨z1, hz⟩ : ∃ z, ofS (meetL cmpT x y) = z := ⟨_, rfl⟩
      rw [hz] at hle hbt
      have Hz1E := Lib.hid hz
      have HBT := Lib.hid hbt
      obtain ⟨nz1, hnz⟩ : ∃ n, z1.length = n := ⟨_, rfl⟩
      have hnz2 : nz1 ≤ 40000 := by
        rw [hnz] at hle
        have h9 := meetL_len cmpT _ x y (Nat.le_refl _)
        rw [HNX.out, HNY.out] at h9
        omega
      have HNz1 := Lib.hid hnz
      clear hz hbt hnz hle
      have q0 := BX.cell 0
      have q1 := BY.cell 0
      go_wp2_with fail
      refine (spans_Meet Ax Ay nx ny cx cy x y w14 HXR.out HYR.out HNX.out HNY.out (by omega) (by omega)).mono ?_
      rintro e w15 ⟨v, rfl, o1, b⟩
      clear q0 q1
      replace HL := Lib.hid (HL.out.below b)
      replace HK := Lib.hid (HK.out.below b)
      replace HXR := Lib.hid (HXR.out.below b)
      replace HYR := Lib.hid (HYR.out.below b)
      replace HML := Lib.hid (HML.out.below b)
      replace HMK := Lib.hid (HMK.out.below b)
      replace HU := Lib.hid (HU.out.below b)
      replace HV := Lib.hid (HV.out.below b)
      replace HRz0 := Lib.hid (HRz0.out.below b)
      replace HSz0 := Lib.hid (HSz0.out.below b)
      replace BX := BX.below b BX.lt
      replace BY := BY.below b BY.lt
      replace hBw := hBw.trans (b.mono hBw.size)
      rw [Hz1E.out] at o1
      obtain ⟨Az1, cz1, rfl, hAz1, hrAz1⟩ := o1.named nz1 HNz1.out
      have HRz1 := Lib.hid hrAz1
      clear o1 hrAz1
      clear b
      have q0 := BX.cell 0
      have q1 := BY.cell 0
      go_wp2_with fail
      refine (ref46_Both Am An n m cm cn l k 1 w15 (by omega) HML.out HMK.out HN.out HM.out (by omega) (by omega)).mono ?_
      rintro e w16 ⟨v, rfl, o1, b⟩
      clear q0 q1
      replace HL := Lib.hid (HL.out.below b)
      replace HK := Lib.hid (HK.out.below b)
      replace HXR := Lib.hid (HXR.out.below b)
      replace HYR := Lib.hid (HYR.out.below b)
      replace HML := Lib.hid (HML.out.below b)
      replace HMK := Lib.hid (HMK.out.below b)
      replace HU := Lib.hid (HU.out.below b)
      replace HV := Lib.hid (HV.out.below b)
      replace HRz0 := Lib.hid (HRz0.out.below b)
      replace HSz0 := Lib.hid (HSz0.out.below b)
      replace HRz1 := Lib.hid (HRz1.out.below b)
      replace BX := BX.below b BX.lt
      replace BY := BY.below b BY.lt
      replace hBw := hBw.trans (b.mono hBw.size)
      rw [HBT.out] at o1
      obtain ⟨Bz1, dz1, rfl, hBz1, hrBz1⟩ := o1.named nz1 HNz1.out
      have HSz1 := Lib.hid hrBz1
      clear o1 hrBz1
      clear b
      have q0 := BX.cell 0
      have q1 := BY.cell 0
      go_wp2_with fail
      refine (law46_is Az1 Bz1 nz1 nz1 cz1 dz1 z1 z1 w16 HRz1.out HSz1.out HNz1.out HNz1.out hAz1 (by omega) (by omega)).mono ?_
      rintro e w17 ⟨rfl, b⟩
      clear q0 q1
      replace HL := Lib.hid (HL.out.below b)
      replace HK := Lib.hid (HK.out.below b)
      replace HXR := Lib.hid (HXR.out.below b)
      replace HYR := Lib.hid (HYR.out.below b)
      replace HML := Lib.hid (HML.out.below b)
      replace HMK := Lib.hid (HMK.out.below b)
      replace HU := Lib.hid (HU.out.below b)
      replace HV := Lib.hid (HV.out.below b)
      replace HRz0 := Lib.hid (HRz0.out.below b)
      replace HSz0 := Lib.hid (HSz0.out.below b)
      replace HRz1 := Lib.hid (HRz1.out.below b)
      replace HSz1 := Lib.hid (HSz1.out.below b)
      replace BX := BX.below b BX.lt
      replace BY := BY.below b BY.lt
      replace hBw := hBw.trans (b.mono hBw.size)
      rw [show decide (z1 = z1) = true by simp]
      clear b
      have hle := ofS_len (lessL cmpT x y)
      have hbt := both_less l k
      rw [HX.out, HY.out] at hbt
      obtain ⟨z2, hz⟩ : ∃ z, ofS (lessL cmpT x y) = z := ⟨_, rfl⟩
      rw [hz] at hle hbt
      have Hz2E := Lib.hid hz
      have HBT := Lib.hid hbt
      obtain ⟨nz2, hnz⟩ : ∃ n, z2.length = n := ⟨_, rfl⟩
      have hnz2 : nz2 ≤ 40000 := by
        rw [hnz] at hle
        have h9 := lessL_len y x []
        rw [HNX.out, HNY.out, List.length_nil] at h9
        have h10 : nx * (ny + 1) ≤ 30 * 31 := Nat.mul_le_mul hnx30 (by omega)
        have h11 : (lessL cmpT x y).length = (x.foldl (lessO cmpT y) []).length := rfl
        omega
      have HNz2 := Lib.hid hnz
      clear hz hbt hnz hle
      have q0 := BX.cell 0
      have q1 := BY.cell 0
      go_wp2_with fail
      refine (spans_Less Ax Ay nx ny cx cy x y w17 HXR.out HYR.out HNX.out HNY.out (by omega) (by omega)).mono ?_
      rintro e w18 ⟨v, rfl, o1, b⟩
      clear q0 q1
      replace HL := Lib.hid (HL.out.below b)
      replace HK := Lib.hid (HK.out.below b)
      replace HXR := Lib.hid (HXR.out.below b)
      replace HYR := Lib.hid (HYR.out.below b)
      replace HML := Lib.hid (HML.out.below b)
      replace HMK := Lib.hid (HMK.out.below b)
      replace HU := Lib.hid (HU.out.below b)
      replace HV := Lib.hid (HV.out.below b)
      replace HRz0 := Lib.hid (HRz0.out.below b)
      replace HSz0 := Lib.hid (HSz0.out.below b)
      replace HRz1 := Lib.hid (HRz1.out.below b)
      replace HSz1 := Lib.hid (HSz1.out.below b)
      replace BX := BX.below b BX.lt
      replace BY := BY.below b BY.lt
      replace hBw := hBw.trans (b.mono hBw.size)
      rw [Hz2E.out] at o1
      obtain ⟨Az2, cz2, rfl, hAz2, hrAz2⟩ := o1.named nz2 HNz2.out
      have HRz2 := Lib.hid hrAz2
      clear o1 hrAz2
      clear b
      have q0 := BX.cell 0
      have q1 := BY.cell 0
      go_wp2_with fail
      refine (ref46_Both Am An n m cm cn l k 2 w18 (by omega) HML.out HMK.out HN.out HM.out (by omega) (by omega)).mono ?_
      rintro e w19 ⟨v, rfl, o1, b⟩
      clear q0 q1
      replace HL := Lib.hid (HL.out.below b)
      replace HK := Lib.hid (HK.out.below b)
      replace HXR := Lib.hid (HXR.out.below b)
      replace HYR := Lib.hid (HYR.out.below b)
      replace HML := Lib.hid (HML.out.below b)
      replace HMK := Lib.hid (HMK.out.below b)
      replace HU := Lib.hid (HU.out.below b)
      replace HV := Lib.hid (HV.out.below b)
      replace HRz0 := Lib.hid (HRz0.out.below b)
      replace HSz0 := Lib.hid (HSz0.out.below b)
      replace HRz1 := Lib.hid (HRz1.out.below b)
      replace HSz1 := Lib.hid (HSz1.out.below b)
      replace HRz2 := Lib.hid (HRz2.out.below b)
      replace BX := BX.below b BX.lt
      replace BY := BY.below b BY.lt
      replace hBw := hBw.trans (b.mono hBw.size)
      rw [HBT.out] at o1
      obtain ⟨Bz2, dz2, rfl, hBz2, hrBz2⟩ := o1.named nz2 HNz2.out
      have HSz2 := Lib.hid hrBz2
      clear o1 hrBz2
      clear b
      have q0 := BX.cell 0
      have q1 := BY.cell 0
      go_wp2_with fail
      refine (law46_is Az2 Bz2 nz2 nz2 cz2 dz2 z2 z2 w19 HRz2.out HSz2.out HNz2.out HNz2.out hAz2 (by omega) (by omega)).mono ?_
      rintro e w20 ⟨rfl, b⟩
      clear q0 q1
      replace HL := Lib.hid (HL.out.below b)
      replace HK := Lib.hid (HK.out.below b)
      replace HXR := Lib.hid (HXR.out.below b)
      replace HYR := Lib.hid (HYR.out.below b)
      replace HML := Lib.hid (HML.out.below b)
      replace HMK := Lib.hid (HMK.out.below b)
      replace HU := Lib.hid (HU.out.below b)
      replace HV := Lib.hid (HV.out.below b)
      replace HRz0 := Lib.hid (HRz0.out.below b)
      replace HSz0 := Lib.hid (HSz0.out.below b)
      replace HRz1 := Lib.hid (HRz1.out.below b)
      replace HSz1 := Lib.hid (HSz1.out.below b)
      replace HRz2 := Lib.hid (HRz2.out.below b)
      replace HSz2 := Lib.hid (HSz2.out.below b)
      replace BX := BX.below b BX.lt
      replace BY := BY.below b BY.lt
      replace hBw := hBw.trans (b.mono hBw.size)
      rw [show decide (z2 = z2) = true by simp]
      clear b
      have q0 := BX.cell 0
      have q1 := BY.cell 0
      go_wp2_with fail
      refine (law46_alive w20).mono ?_
      rintro e w21 ⟨rfl, b⟩
      clear q0 q1
      replace HL := Lib.hid (HL.out.below b)
      replace HK := Lib.hid (HK.out.below b)
      replace HXR := Lib.hid (HXR.out.below b)
      replace HYR := Lib.hid (HYR.out.below b)
      replace HML := Lib.hid (HML.out.below b)
      replace HMK := Lib.hid (HMK.out.below b)
      replace HU := Lib.hid (HU.out.below b)
      replace HV := Lib.hid (HV.out.below b)
      replace HRz0 := Lib.hid (HRz0.out.below b)
      replace HSz0 := Lib.hid (HSz0.out.below b)
      replace HRz1 := Lib.hid (HRz1.out.below b)
      replace HSz1 := Lib.hid (HSz1.out.below b)
      replace HRz2 := Lib.hid (HRz2.out.below b)
      replace HSz2 := Lib.hid (HSz2.out.below b)
      replace BX := BX.below b BX.lt
      replace BY := BY.below b BY.lt
      replace hBw := hBw.trans (b.mono hBw.size)
      clear b
      go_wp2_with fail
      go_ret
      exact ⟨rfl, hBw⟩
    · have hm1 : m > 30 := by omega
      go_enter Try.func7, Try.ntmps7
      go_wp2_with fail
      go_ret
      exact ⟨rfl, Below.refl _ _⟩
  · have hn1 : n > 30 := by omega
    go_enter Try.func7, Try.ntmps7
    go_wp2_with fail
    go_ret
    exact ⟨rfl, Below.refl _ _⟩
theorem spans_sets_row (w : World) (A : Option Addr) (n c : Nat) (l : List Sp) (h1 : n ≤ c) (h2 : c ≤ maxLen) (hA : A = none → c = 0) (hl : l.length = n) (hr : RdP w A l)
    (B : Option Addr) (m d : Nat) (k : List Sp) (h3 : m ≤ d) (h4 : d ≤ maxLen) (hB : B = none → d = 0) (hk : k.length = m) (hs : RdP w B k) :
    Calls Try.prog 7 #[.slice A n c, .slice B m d] w fun e w' => e = .returned (.bool true) ∧ Below w.heap.size w w' :=
  spans_sets_walk A B n m c d l k w hr hs hl hk hA hB (by unfold maxLen at h2; omega) (by unfold maxLen at h4; omega)
end Go.Proofs.Ytomefcngaclehaa
