/- The walk of the law StampPlays (under way). -/
import Derived.Test.YtnaaknkknhediaaStampH
import Derived.Test.YtnaaknkknhediaaStampOrdersWalk
import Derived.StillTailTactics
import Derived.Lib.QuietBelow
namespace Go.Proofs.Ytnaaknkknhediaa
open Go.RowKit Go.Sort

/-- The slice's elements are operations: five numbers each, below block B. -/
def Ops (w : World) (B : Nat) (A : Option Addr) (n : Nat) : Prop :=
  ∀ i, i < n → ∃ b o k m s0 s1 s2, A = some ⟨b, o, none⟩ ∧ b < B ∧ w.cell? ⟨b, o + i * 5, none⟩ = some (.int .i64 k) ∧ w.cell? ⟨b, o + i * 5 + 1, none⟩ = some (.int .i64 m) ∧
    w.cell? ⟨b, o + i * 5 + 2, none⟩ = some (.int .i64 s0) ∧ w.cell? ⟨b, o + i * 5 + 3, none⟩ = some (.int .i64 s1) ∧ w.cell? ⟨b, o + i * 5 + 4, none⟩ = some (.int .i64 s2)
theorem Ops.below {w w' : World} {B n : Nat} {A : Option Addr} (h : Ops w B A n) (hb : Below B w w') : Ops w' B A n := fun i hi => by
  obtain ⟨b, o, k, m, s0, s1, s2, hA, hlt, h0, h1, h2, h3, h4⟩ := h i hi
  exact ⟨b, o, k, m, s0, s1, s2, hA, hlt, (hb.cell (p := ⟨b, _, none⟩) hlt).trans h0, (hb.cell (p := ⟨b, _, none⟩) hlt).trans h1, (hb.cell (p := ⟨b, _, none⟩) hlt).trans h2, (hb.cell (p := ⟨b, _, none⟩) hlt).trans h3, (hb.cell (p := ⟨b, _, none⟩) hlt).trans h4⟩

theorem cutS_range (n : Int) : 0 ≤ cutS n ∧ cutS n ≤ 1099511627776 := by unfold cutS; omega
theorem wrap64_id {n : Int} (h0 : -9223372036854775808 ≤ n) (h1 : n ≤ 9223372036854775807) : wrap64 n = n := by
  have h := IntKind.wrap_i64 n
  unfold wrap64
  omega

/-- While the operations are played: clock and model hold the same. -/
def PlayRel (w : World) (g gm n : Nat) (v9 : Value) (wr : World) : Prop :=
  ∃ (i : Nat) (who ph l0 l1 l2 : Int), v9 = .int .i64 i ∧ i ≤ n ∧ Clk wr g who ph l0 l1 l2 ∧ Blk wr gm 87 #[.int .i64 who, .int .i64 ph, .int .i64 l0, .int .i64 l1, .int .i64 l2] ∧
    Below w.heap.size w wr ∧ (0 ≤ ph ∧ ph ≤ 1099511627776) ∧ (0 ≤ l1 ∧ l1 ≤ 1099511627776)

set_option maxRecDepth 100000 in
set_option maxHeartbeats 2000000 in
theorem stamp_plays_walk (w : World) (who : Int) (_ : (Lit.int .i64 who).wf = true) (phys : Int) (_ : (Lit.int .i64 phys).wf = true) (A : Option Addr) (n c : Nat) (_ : n ≤ c) (_ : c ≤ maxLen) (hO : Ops w w.heap.size A n) :
    Calls Try.prog 13 #[.int .i64 who, .int .i64 phys, .slice A n c] w fun e w' => e = .returned (.bool true) ∧ Below w.heap.size w w' := by
  by_cases hn : 100 < n
  · have hd : decide (100 < (n : Int)) = true := by simp; omega
    go_enter Try.func13, Try.ntmps13
    go_wp2_with fail
    go_ret
    exact ⟨rfl, Below.refl _ _⟩
  have hd : decide (100 < (n : Int)) = false := by simp; omega
  have HO := Lib.hid hO
  clear hO
  go_enter Try.func13, Try.ntmps13
  go_wp2_with fail
  refine (stamp_New who phys w).mono ?_
  rintro e w1 ⟨rfl, rfl⟩
  have B0 := Blk.new w 111 #[.int .i64 (cutS who), .int .i64 (cutS phys), .int .i64 0, .int .i64 0, .int .i64 0]
  have hG : Below w.heap.size w (w.alloc (.cells #[.int .i64 (cutS who), .int .i64 (cutS phys), .int .i64 0, .int .i64 0, .int .i64 0] 111)) := (Below.refl _ _).alloc (Nat.le_refl _) _
  generalize w.alloc (.cells #[.int .i64 (cutS who), .int .i64 (cutS phys), .int .i64 0, .int .i64 0, .int .i64 0] 111) = W at *
  go_wp2_with fail
  refine (ref04_Cut who W).mono ?_
  rintro e w2 ⟨rfl, rfl⟩
  go_wp2_with fail
  refine (ref04_Cut phys W).mono ?_
  rintro e w2 ⟨rfl, rfl⟩
  go_wp2_with fail
  have B1 := B0.alloc (.cells #[.int .i64 (cutS who), .int .i64 (cutS phys), .int .i64 0, .int .i64 0, .int .i64 0] 87)
  have M1 := Blk.new W 87 #[.int .i64 (cutS who), .int .i64 (cutS phys), .int .i64 0, .int .i64 0, .int .i64 0]
  have hG1 := hG.alloc hG.size (.cells #[.int .i64 (cutS who), .int .i64 (cutS phys), .int .i64 0, .int .i64 0, .int .i64 0] 87)
  have hgm := B0.lt
  clear B0 hG
  generalize W.alloc (.cells #[.int .i64 (cutS who), .int .i64 (cutS phys), .int .i64 0, .int .i64 0, .int .i64 0] 87) = U at *
  generalize W.heap.size = gm at *
  go_loopw [9] (fun v9 wr => PlayRel w w.heap.size gm n v9 wr) (fun v9 _ => n - (intOf v9).toNat)
  case atStart => exact ⟨0, cutS who, cutS phys, 0, 0, 0, rfl, Nat.zero_le _, B1, M1, hG1, by unfold cutS; omega, by decide⟩
  case round =>
    obtain ⟨i, who', ph, l0, l1, l2, rfl, hin, CK, MK, hB, hph, hl1⟩ := hrel
    by_cases hi : i < n
    · obtain ⟨b, o, k, m, s0, s1, s2, rfl, hb, q0, q1, q2, q3, q4⟩ := (HO.out.below hB) i hi
      have CK1 := Blk.alloc CK (.cells #[.int .i64 k, .int .i64 m, .int .i64 s0, .int .i64 s1, .int .i64 s2] 76)
      have MK1 := Blk.alloc MK (.cells #[.int .i64 k, .int .i64 m, .int .i64 s0, .int .i64 s1, .int .i64 s2] 76)
      have OK1 := Blk.new wr 76 #[.int .i64 k, .int .i64 m, .int .i64 s0, .int .i64 s1, .int .i64 s2]
      have hB1 := hB.alloc hB.size (.cells #[.int .i64 k, .int .i64 m, .int .i64 s0, .int .i64 s1, .int .i64 s2] 76)
      have hs1 := hB.size
      have hlc := Blk.lt CK
      have hlm := Blk.lt MK
      clear CK MK hB B1 M1 hG1
      go_upto_region 11 with fail
      clear q0 q1 q2 q3 q4
      generalize wr.alloc (.cells #[.int .i64 k, .int .i64 m, .int .i64 s0, .int .i64 s1, .int .i64 s2] 76) = X at *
      generalize wr.heap.size = go at *
      have oc := OK1.cell
      by_cases h0 : k.tmod 3 = 0
      · have hk0 : (k.tmod 3 == 0) = true := by simp [h0]
        clear h0
        go_wp2_with fail
        refine (clock_Tick w.heap.size who' ph l0 l1 l2 m X CK1 hph).mono ?_
        rintro e w3 ⟨rfl, CK2, g2⟩
        have MK2 := MK1.grown g2 (by simp; omega)
        have OK2 := OK1.grown g2 (by simp; omega)
        have hB2 : Below w.heap.size w w3 := Below.grown hB1 g2 hB1.size (fun k hk => by injection hk with hk; omega)
        have mc := MK2.cell
        have mf := MK2.frozen
        have oc2 := OK2.cell
        clear CK1 MK1 OK1 hB1 oc g2
        go_upto_region 19 with fail
        refine wp_region_still_tail 8 (by kernel_rfl) (by kernel_rfl) ?_
        simp only [List.take_succ_cons, List.take_zero, List.drop_succ_cons, List.drop_zero]
        repeat (first | still_step | still_call ((ref04_Cut _ _).mono fun _ _ h => ⟨h.1, h.2.symm⟩))
        refine wpStill_nil ?_
        change wpList _ _ _ _ _ w3.drew
        have hcm := cutS_range m
        have hw : wrap64 (ph + cutS m) = ph + cutS m := wrap64_id (by omega) (by omega)
        have hr9 := cutS_range (ph + cutS m)
        have CK9 : Blk (w3.setCell ⟨gm, 1, none⟩ (.int .i64 (cutS (ph + cutS m)))).drew w.heap.size 111 #[.int .i64 who', .int .i64 (cutS (ph + cutS m)), .int .i64 l0, .int .i64 l1, .int .i64 l2] :=
          (Blk.far CK2 (p := ⟨gm, 1, none⟩) (by simp; omega) _).drew
        have MK9 : Blk (w3.setCell ⟨gm, 1, none⟩ (.int .i64 (cutS (ph + cutS m)))).drew gm 87 #[.int .i64 who', .int .i64 (cutS (ph + cutS m)), .int .i64 l0, .int .i64 l1, .int .i64 l2] := by
          simpa using (MK2.set_ 1 (.int .i64 (cutS (ph + cutS m)))).drew
        have HB9 : Below w.heap.size w (w3.setCell ⟨gm, 1, none⟩ (.int .i64 (cutS (ph + cutS m)))).drew := below_drewN (hB2.setCell (p := ⟨gm, 1, none⟩) (by simp; omega) _) 1
        clear MK2 CK2 OK2 hB2
        go_upto_region 24 with fail
        generalize hZ : (w3.setCell ⟨gm, 1, none⟩ (.int .i64 (cutS (ph + cutS m)))).drew = Z at *
        clear hZ mc mf oc2
        have z1 := cell_regrown (show Z.cell? ⟨gm, 1, none⟩ = some (.int .i64 (cutS (ph + cutS m))) by simpa using MK9.cell 1)
        have z2 := cell_regrown (show Z.cell? ⟨gm, 2, none⟩ = some (.int .i64 (l0)) by simpa using MK9.cell 2)
        have z3 := cell_regrown (show Z.cell? ⟨gm, 3, none⟩ = some (.int .i64 (l1)) by simpa using MK9.cell 3)
        have z4 := cell_regrown (show Z.cell? ⟨gm, 4, none⟩ = some (.int .i64 (l2)) by simpa using MK9.cell 4)
        have cP : ∀ d os, Calls Try.prog 66 #[.pointer (some ⟨w.heap.size, 0, none⟩)] (grow (redrawn Z d) os) fun e w'' => e = .returned (.int .i64 (cutS (ph + cutS m))) ∧ ∃ p : Regrown, w'' = grow (redrawn Z p.d) p.os :=
          fun d os => Calls.regrown_of ((clock_Phys w.heap.size _ _ _ _ _ _ (CK9.below (below_regrown Z d os) CK9.lt)).mono fun _ _ h => ⟨h.1, h.2 ▸ Below.refl _ _⟩)
        have cL : ∀ d os, Calls Try.prog 67 #[.pointer (some ⟨w.heap.size, 0, none⟩)] (grow (redrawn Z d) os) fun e w'' => e = .returned (.agg #[.int .i64 (l0), .int .i64 (l1), .int .i64 (l2)]) ∧ ∃ p : Regrown, w'' = grow (redrawn Z p.d) p.os :=
          fun d os => Calls.regrown_of (clock_Last w.heap.size _ _ _ _ _ _ (CK9.below (below_regrown Z d os) CK9.lt))
        refine wp_region_quiet_below (by kernel_rfl) (by kernel_rfl) ?_
        repeat (go_big_quiet_step (first | exact cP _ _ | exact cL _ _))
        refine wpQuiet_nil ?_
        intro _ hw'
        obtain ⟨⟨dq, osq⟩, hw''⟩ := hw'
        subst hw''
        have CKF := CK9.below (below_regrown Z dq osq) CK9.lt
        have MKF := MK9.below (below_regrown Z dq osq) MK9.lt
        have HBF := below_regrown_of HB9 HB9.size dq osq
        go_wp2_with fail
        go_roundw
        case rel => exact ⟨i + 1, who', cutS (ph + cutS m), l0, l1, l2, by go_num, by omega, CKF, MKF, HBF, hr9, hl1⟩
        case measure => simp [intOf]; omega
      · have hk0 : (k.tmod 3 == 0) = false := by simp [h0]
        by_cases h1 : k.tmod 3 = 1
        · have hk1 : (k.tmod 3 == 1) = true := by simp [h1]
          clear h0 h1
          obtain ⟨m0, m1, m2, hM, hm1⟩ : ∃ m0 m1 m2 : Int, (if cmpS l0 l1 l2 s0 s1 s2 < 0 then Value.agg #[.int .i64 s0, .int .i64 s1, .int .i64 s2] else .agg #[.int .i64 l0, .int .i64 l1, .int .i64 l2]) = .agg #[.int .i64 m0, .int .i64 m1, .int .i64 m2] ∧ (rightB s0 s1 s2 = true → 0 ≤ m1 ∧ m1 ≤ 1099511627776) := by
            split
            · exact ⟨_, _, _, rfl, fun h => by unfold rightB at h; simp at h; omega⟩
            · exact ⟨_, _, _, rfl, fun _ => hl1⟩
          have HM := Lib.hid hM
          clear hM
          go_wp2_with fail
          refine (clock_See w.heap.size who' ph l0 l1 l2 s0 s1 s2 m0 m1 m2 X CK1 HM.out).mono ?_
          rintro e w3 ⟨rfl, CKt, CKf, g2⟩
          have MK2 := MK1.grown g2 (by simp; omega)
          have OK2 := OK1.grown g2 (by simp; omega)
          have hB2 : Below w.heap.size w w3 := Below.grown hB1 g2 hB1.size (fun k hk => by injection hk with hk; omega)
          have oc2 := OK2.cell
          clear CK1 MK1 OK1 hB1 oc g2
          go_wp2_with fail
          refine (ref04_Right s0 s1 s2 _).mono ?_
          rintro e w4 ⟨rfl, b4⟩
          have MK3 := MK2.below b4 MK2.lt
          have OK3 := OK2.below b4 OK2.lt
          have hlt3 : w.heap.size < w3.heap.size := Nat.lt_trans hgm MK2.lt
          have hB3 := hB2.trans (b4.mono hB2.size)
          clear MK2 OK2 hB2 oc2
          generalize hrr : rightB s0 s1 s2 = rb at *
          cases rb with
          | false =>
            have CK9 : Clk w4 w.heap.size who' ph l0 l1 l2 := Blk.below (CKf rfl) b4 hlt3
            have MK9 := MK3
            have HB9 := hB3
            clear CKt CKf b4 MK3 OK3 hB3 HM
            go_upto_region 24 with fail
            generalize hZ : w4 = Z at *
            clear hZ
            have z1 := cell_regrown (show Z.cell? ⟨gm, 1, none⟩ = some (.int .i64 (ph)) by simpa using MK9.cell 1)
            have z2 := cell_regrown (show Z.cell? ⟨gm, 2, none⟩ = some (.int .i64 (l0)) by simpa using MK9.cell 2)
            have z3 := cell_regrown (show Z.cell? ⟨gm, 3, none⟩ = some (.int .i64 (l1)) by simpa using MK9.cell 3)
            have z4 := cell_regrown (show Z.cell? ⟨gm, 4, none⟩ = some (.int .i64 (l2)) by simpa using MK9.cell 4)
            have cP : ∀ d os, Calls Try.prog 66 #[.pointer (some ⟨w.heap.size, 0, none⟩)] (grow (redrawn Z d) os) fun e w'' => e = .returned (.int .i64 (ph)) ∧ ∃ p : Regrown, w'' = grow (redrawn Z p.d) p.os :=
              fun d os => Calls.regrown_of ((clock_Phys w.heap.size _ _ _ _ _ _ (CK9.below (below_regrown Z d os) CK9.lt)).mono fun _ _ h => ⟨h.1, h.2 ▸ Below.refl _ _⟩)
            have cL : ∀ d os, Calls Try.prog 67 #[.pointer (some ⟨w.heap.size, 0, none⟩)] (grow (redrawn Z d) os) fun e w'' => e = .returned (.agg #[.int .i64 (l0), .int .i64 (l1), .int .i64 (l2)]) ∧ ∃ p : Regrown, w'' = grow (redrawn Z p.d) p.os :=
              fun d os => Calls.regrown_of (clock_Last w.heap.size _ _ _ _ _ _ (CK9.below (below_regrown Z d os) CK9.lt))
            refine wp_region_quiet_below (by kernel_rfl) (by kernel_rfl) ?_
            repeat (go_big_quiet_step (first | exact cP _ _ | exact cL _ _))
            refine wpQuiet_nil ?_
            intro _ hw'
            obtain ⟨⟨dq, osq⟩, hw''⟩ := hw'
            subst hw''
            have CKF := CK9.below (below_regrown Z dq osq) CK9.lt
            have MKF := MK9.below (below_regrown Z dq osq) MK9.lt
            have HBF := below_regrown_of HB9 HB9.size dq osq
            go_wp2_with fail
            go_roundw
            case rel => exact ⟨i + 1, who', ph, l0, l1, l2, by go_num, by omega, CKF, MKF, HBF, hph, hl1⟩
            case measure => simp [intOf]; omega
          | true =>
            have CK3 : Clk w4 w.heap.size who' ph m0 m1 m2 := Blk.below (CKt rfl) b4 hlt3
            have mc := MK3.cell
            have mf := MK3.frozen
            have oc3 := OK3.cell
            have hm9 := hm1 rfl
            have hgm3 := MK3.lt
            clear CKt CKf b4
            go_wp2_with fail
            refine (ref04_Max l0 l1 l2 s0 s1 s2 _).mono ?_
            rw [HM.out]
            rintro e w5 ⟨rfl, b5⟩
            have MK4 := MK3.below b5 MK3.lt
            have CK4 : Clk w5 w.heap.size who' ph m0 m1 m2 := Blk.below CK3 b5 (Nat.lt_trans hgm hgm3)
            have hB4 := hB3.trans (b5.mono hB3.size)
            clear MK3 OK3 hB3 CK3 oc3 mc mf b5
            have mc := MK4.cell
            have mf := MK4.frozen
            have CK9 : Blk (((w5.setCell ⟨gm, 2, none⟩ (.int .i64 m0)).setCell ⟨gm, 3, none⟩ (.int .i64 m1)).setCell ⟨gm, 4, none⟩ (.int .i64 m2)) w.heap.size 111 #[.int .i64 who', .int .i64 ph, .int .i64 m0, .int .i64 m1, .int .i64 m2] :=
              ((Blk.far CK4 (p := ⟨gm, 2, none⟩) (by simp; omega) _).far (p := ⟨gm, 3, none⟩) (by simp; omega) _).far (p := ⟨gm, 4, none⟩) (by simp; omega) _
            have MK9 : Blk (((w5.setCell ⟨gm, 2, none⟩ (.int .i64 m0)).setCell ⟨gm, 3, none⟩ (.int .i64 m1)).setCell ⟨gm, 4, none⟩ (.int .i64 m2)) gm 87 #[.int .i64 who', .int .i64 ph, .int .i64 m0, .int .i64 m1, .int .i64 m2] := by
              simpa using ((MK4.set_ 2 (.int .i64 m0)).set_ 3 (.int .i64 m1)).set_ 4 (.int .i64 m2)
            have HB9 : Below w.heap.size w (((w5.setCell ⟨gm, 2, none⟩ (.int .i64 m0)).setCell ⟨gm, 3, none⟩ (.int .i64 m1)).setCell ⟨gm, 4, none⟩ (.int .i64 m2)) :=
              ((hB4.setCell (p := ⟨gm, 2, none⟩) (by simp; omega) _).setCell (p := ⟨gm, 3, none⟩) (by simp; omega) _).setCell (p := ⟨gm, 4, none⟩) (by simp; omega) _
            clear MK4 CK4 hB4
            go_upto_region 24 with fail
            generalize hZ : (((w5.setCell ⟨gm, 2, none⟩ (.int .i64 m0)).setCell ⟨gm, 3, none⟩ (.int .i64 m1)).setCell ⟨gm, 4, none⟩ (.int .i64 m2)) = Z at *
            clear hZ mc mf
            have z1 := cell_regrown (show Z.cell? ⟨gm, 1, none⟩ = some (.int .i64 (ph)) by simpa using MK9.cell 1)
            have z2 := cell_regrown (show Z.cell? ⟨gm, 2, none⟩ = some (.int .i64 (m0)) by simpa using MK9.cell 2)
            have z3 := cell_regrown (show Z.cell? ⟨gm, 3, none⟩ = some (.int .i64 (m1)) by simpa using MK9.cell 3)
            have z4 := cell_regrown (show Z.cell? ⟨gm, 4, none⟩ = some (.int .i64 (m2)) by simpa using MK9.cell 4)
            have cP : ∀ d os, Calls Try.prog 66 #[.pointer (some ⟨w.heap.size, 0, none⟩)] (grow (redrawn Z d) os) fun e w'' => e = .returned (.int .i64 (ph)) ∧ ∃ p : Regrown, w'' = grow (redrawn Z p.d) p.os :=
              fun d os => Calls.regrown_of ((clock_Phys w.heap.size _ _ _ _ _ _ (CK9.below (below_regrown Z d os) CK9.lt)).mono fun _ _ h => ⟨h.1, h.2 ▸ Below.refl _ _⟩)
            have cL : ∀ d os, Calls Try.prog 67 #[.pointer (some ⟨w.heap.size, 0, none⟩)] (grow (redrawn Z d) os) fun e w'' => e = .returned (.agg #[.int .i64 (m0), .int .i64 (m1), .int .i64 (m2)]) ∧ ∃ p : Regrown, w'' = grow (redrawn Z p.d) p.os :=
              fun d os => Calls.regrown_of (clock_Last w.heap.size _ _ _ _ _ _ (CK9.below (below_regrown Z d os) CK9.lt))
            refine wp_region_quiet_below (by kernel_rfl) (by kernel_rfl) ?_
            repeat (go_big_quiet_step (first | exact cP _ _ | exact cL _ _))
            refine wpQuiet_nil ?_
            intro _ hw'
            obtain ⟨⟨dq, osq⟩, hw''⟩ := hw'
            subst hw''
            have CKF := CK9.below (below_regrown Z dq osq) CK9.lt
            have MKF := MK9.below (below_regrown Z dq osq) MK9.lt
            have HBF := below_regrown_of HB9 HB9.size dq osq
            go_wp2_with fail
            go_roundw
            case rel => exact ⟨i + 1, who', ph, m0, m1, m2, by go_num, by omega, CKF, MKF, HBF, hph, hm9⟩
            case measure => simp [intOf]; omega
        · have hk1 : (k.tmod 3 == 1) = false := by simp [h1]
          clear h0 h1
          have hNC := clock_Now w.heap.size who' ph l0 l1 l2 X CK1 (by omega)
          have hNR : nowV who' ph l0 l1 l2 = if rightB (nx0 ph l0) (nx1 ph l0 l1) who' = true then .tuple #[.agg #[.int .i64 (nx0 ph l0), .int .i64 (nx1 ph l0 l1), .int .i64 who'], .agg #[.int .i64 who', .int .i64 ph, .int .i64 (nx0 ph l0), .int .i64 (nx1 ph l0 l1), .int .i64 who'], .bool true]
            else .tuple #[.agg #[.int .i64 0, .int .i64 0, .int .i64 0], .agg #[.int .i64 who', .int .i64 ph, .int .i64 l0, .int .i64 l1, .int .i64 l2], .bool false] := rfl
          have hRN := fun W => ref04_Now who' ph l0 l1 l2 W (by omega)
          rw [hNR] at hRN
          clear hNR
          have hbd : rightB (nx0 ph l0) (nx1 ph l0 l1) who' = true → 0 ≤ nx1 ph l0 l1 ∧ nx1 ph l0 l1 ≤ 1099511627776 := fun h => by unfold rightB at h; simp at h; omega
          generalize rightB (nx0 ph l0) (nx1 ph l0 l1) who' = rb at hNC hRN hbd
          generalize nx0 ph l0 = n0 at hNC hRN hbd
          generalize nx1 ph l0 l1 = n1 at hNC hRN hbd
          cases rb with
          | false =>
            have hNC' := hNC.mono fun _ _ h => h.2 rfl
            have hRN' : ∀ W, Calls Try.prog 65 #[.agg #[.int .i64 who', .int .i64 ph, .int .i64 l0, .int .i64 l1, .int .i64 l2]] W fun e w' => e = .returned (.tuple #[.agg #[.int .i64 0, .int .i64 0, .int .i64 0], .agg #[.int .i64 who', .int .i64 ph, .int .i64 l0, .int .i64 l1, .int .i64 l2], .bool false]) ∧ Below W.heap.size W w' := hRN
            have HBD := Lib.hid hbd
            clear hNC hRN hbd
            go_wp2_with fail
            refine hNC'.mono ?_
            rintro e w3 ⟨rfl, CK2, g2⟩
            have MK2 := MK1.grown g2 (by simp; omega)
            have hB2 : Below w.heap.size w w3 := Below.grown hB1 g2 hB1.size (fun k hk => by injection hk with hk; omega)
            clear CK1 MK1 OK1 hB1 oc g2 hNC'
            have CK3 := Blk.alloc CK2 (.cells #[.int .i64 0, .int .i64 0, .int .i64 0] 51)
            have MK3 := MK2.alloc (.cells #[.int .i64 0, .int .i64 0, .int .i64 0] 51)
            have A3 := Blk.new w3 51 #[.int .i64 0, .int .i64 0, .int .i64 0]
            have hB3 := hB2.alloc hB2.size (.cells #[.int .i64 0, .int .i64 0, .int .i64 0] 51)
            have l3 := MK2.lt
            go_upto_region 13 with fail
            clear CK2 MK2 hB2
            generalize w3.alloc (.cells #[.int .i64 0, .int .i64 0, .int .i64 0] 51) = Y3 at *
            generalize w3.heap.size = ga at *
            have mc := MK3.cell
            go_wp2_with fail
            refine (hRN' _).mono ?_
            rintro e w4 ⟨rfl, b4⟩
            have CK4 := CK3.below b4 CK3.lt
            have MK4 := MK3.below b4 MK3.lt
            have A4 := A3.below b4 A3.lt
            have hB4 := hB3.trans (b4.mono hB3.size)
            have la := A4.lt
            clear CK3 MK3 A3 hB3 b4 mc hRN'
            go_upto_region 14 with fail
            have CK5 := (Blk.alloc CK4 (.cells #[.int .i64 0, .int .i64 0, .int .i64 0] 51)).alloc (.cells #[.int .i64 who', .int .i64 ph, .int .i64 l0, .int .i64 l1, .int .i64 l2] 87)
            have MK5 := (MK4.alloc (.cells #[.int .i64 0, .int .i64 0, .int .i64 0] 51)).alloc (.cells #[.int .i64 who', .int .i64 ph, .int .i64 l0, .int .i64 l1, .int .i64 l2] 87)
            have A5 := (A4.alloc (.cells #[.int .i64 0, .int .i64 0, .int .i64 0] 51)).alloc (.cells #[.int .i64 who', .int .i64 ph, .int .i64 l0, .int .i64 l1, .int .i64 l2] 87)
            have B5 := (Blk.new w4 51 #[.int .i64 0, .int .i64 0, .int .i64 0]).alloc (.cells #[.int .i64 who', .int .i64 ph, .int .i64 l0, .int .i64 l1, .int .i64 l2] 87)
            have D5 : Blk ((w4.alloc (.cells #[.int .i64 0, .int .i64 0, .int .i64 0] 51)).alloc (.cells #[.int .i64 who', .int .i64 ph, .int .i64 l0, .int .i64 l1, .int .i64 l2] 87)) (w4.heap.size + 1) 87 #[.int .i64 who', .int .i64 ph, .int .i64 l0, .int .i64 l1, .int .i64 l2] := by
              simpa using Blk.new (w4.alloc (.cells #[.int .i64 0, .int .i64 0, .int .i64 0] 51)) 87 #[.int .i64 who', .int .i64 ph, .int .i64 l0, .int .i64 l1, .int .i64 l2]
            have hB5 := (hB4.alloc hB4.size (.cells #[.int .i64 0, .int .i64 0, .int .i64 0] 51)).alloc (by have := hB4.size; simp; omega) (.cells #[.int .i64 who', .int .i64 ph, .int .i64 l0, .int .i64 l1, .int .i64 l2] 87)
            clear CK4 MK4 A4 hB4
            generalize (w4.alloc (.cells #[.int .i64 0, .int .i64 0, .int .i64 0] 51)).alloc (.cells #[.int .i64 who', .int .i64 ph, .int .i64 l0, .int .i64 l1, .int .i64 l2] 87) = Y5 at *
            generalize w4.heap.size = gb at *
            have mc := MK5.cell
            have mf := MK5.frozen
            have dc := D5.cell
            go_upto_region 15 with fail
            have CK9 := ((((Blk.far CK5 (p := ⟨gm, 0, none⟩) (by simp; omega) (.int .i64 who')).far (p := ⟨gm, 1, none⟩) (by simp; omega) (.int .i64 ph)).far (p := ⟨gm, 2, none⟩) (by simp; omega) (.int .i64 l0)).far (p := ⟨gm, 3, none⟩) (by simp; omega) (.int .i64 l1)).far (p := ⟨gm, 4, none⟩) (by simp; omega) (.int .i64 l2)
            have A9 := ((((Blk.far A5 (p := ⟨gm, 0, none⟩) (by simp; omega) (.int .i64 who')).far (p := ⟨gm, 1, none⟩) (by simp; omega) (.int .i64 ph)).far (p := ⟨gm, 2, none⟩) (by simp; omega) (.int .i64 l0)).far (p := ⟨gm, 3, none⟩) (by simp; omega) (.int .i64 l1)).far (p := ⟨gm, 4, none⟩) (by simp; omega) (.int .i64 l2)
            have B9 := ((((Blk.far B5 (p := ⟨gm, 0, none⟩) (by simp; omega) (.int .i64 who')).far (p := ⟨gm, 1, none⟩) (by simp; omega) (.int .i64 ph)).far (p := ⟨gm, 2, none⟩) (by simp; omega) (.int .i64 l0)).far (p := ⟨gm, 3, none⟩) (by simp; omega) (.int .i64 l1)).far (p := ⟨gm, 4, none⟩) (by simp; omega) (.int .i64 l2)
            have MK9 : Blk (((((Y5.setCell ⟨gm, 0, none⟩ (.int .i64 who')).setCell ⟨gm, 1, none⟩ (.int .i64 ph)).setCell ⟨gm, 2, none⟩ (.int .i64 l0)).setCell ⟨gm, 3, none⟩ (.int .i64 l1)).setCell ⟨gm, 4, none⟩ (.int .i64 l2)) gm 87 #[.int .i64 who', .int .i64 ph, .int .i64 l0, .int .i64 l1, .int .i64 l2] := by
              simpa using ((((MK5.set_ 0 (.int .i64 who')).set_ 1 (.int .i64 ph)).set_ 2 (.int .i64 l0)).set_ 3 (.int .i64 l1)).set_ 4 (.int .i64 l2)
            have HB9 := ((((hB5.setCell (p := ⟨gm, 0, none⟩) (by simp; omega) (.int .i64 who')).setCell (p := ⟨gm, 1, none⟩) (by simp; omega) (.int .i64 ph)).setCell (p := ⟨gm, 2, none⟩) (by simp; omega) (.int .i64 l0)).setCell (p := ⟨gm, 3, none⟩) (by simp; omega) (.int .i64 l1)).setCell (p := ⟨gm, 4, none⟩) (by simp; omega) (.int .i64 l2)
            clear CK5 MK5 A5 B5 D5 hB5 mc mf dc
            have ac := A9.cell
            have bc := B9.cell
            go_upto_region 24 with fail
            generalize hZ : ((((Y5.setCell ⟨gm, 0, none⟩ (.int .i64 who')).setCell ⟨gm, 1, none⟩ (.int .i64 ph)).setCell ⟨gm, 2, none⟩ (.int .i64 l0)).setCell ⟨gm, 3, none⟩ (.int .i64 l1)).setCell ⟨gm, 4, none⟩ (.int .i64 l2) = Z at *
            clear hZ ac bc A9 B9
            have z1 := cell_regrown (show Z.cell? ⟨gm, 1, none⟩ = some (.int .i64 (ph)) by simpa using MK9.cell 1)
            have z2 := cell_regrown (show Z.cell? ⟨gm, 2, none⟩ = some (.int .i64 (l0)) by simpa using MK9.cell 2)
            have z3 := cell_regrown (show Z.cell? ⟨gm, 3, none⟩ = some (.int .i64 (l1)) by simpa using MK9.cell 3)
            have z4 := cell_regrown (show Z.cell? ⟨gm, 4, none⟩ = some (.int .i64 (l2)) by simpa using MK9.cell 4)
            have cP : ∀ d os, Calls Try.prog 66 #[.pointer (some ⟨w.heap.size, 0, none⟩)] (grow (redrawn Z d) os) fun e w'' => e = .returned (.int .i64 (ph)) ∧ ∃ p : Regrown, w'' = grow (redrawn Z p.d) p.os :=
              fun d os => Calls.regrown_of ((clock_Phys w.heap.size _ _ _ _ _ _ (CK9.below (below_regrown Z d os) CK9.lt)).mono fun _ _ h => ⟨h.1, h.2 ▸ Below.refl _ _⟩)
            have cL : ∀ d os, Calls Try.prog 67 #[.pointer (some ⟨w.heap.size, 0, none⟩)] (grow (redrawn Z d) os) fun e w'' => e = .returned (.agg #[.int .i64 (l0), .int .i64 (l1), .int .i64 (l2)]) ∧ ∃ p : Regrown, w'' = grow (redrawn Z p.d) p.os :=
              fun d os => Calls.regrown_of (clock_Last w.heap.size _ _ _ _ _ _ (CK9.below (below_regrown Z d os) CK9.lt))
            refine wp_region_quiet_below (by kernel_rfl) (by kernel_rfl) ?_
            repeat (go_big_quiet_step (first | exact cP _ _ | exact cL _ _))
            refine wpQuiet_nil ?_
            intro _ hw'
            obtain ⟨⟨dq, osq⟩, hw''⟩ := hw'
            subst hw''
            have CKF := CK9.below (below_regrown Z dq osq) CK9.lt
            have MKF := MK9.below (below_regrown Z dq osq) MK9.lt
            have HBF := below_regrown_of HB9 HB9.size dq osq
            go_wp2_with fail
            go_roundw
            case rel => exact ⟨i + 1, who', ph, l0, l1, l2, by go_num, by omega, CKF, MKF, HBF, hph, hl1⟩
            case measure => simp [intOf]; omega
          | true =>
            have hNC' := hNC.mono fun _ _ h => h.1 rfl
            have hRN' : ∀ W, Calls Try.prog 65 #[.agg #[.int .i64 who', .int .i64 ph, .int .i64 l0, .int .i64 l1, .int .i64 l2]] W fun e w' => e = .returned (.tuple #[.agg #[.int .i64 n0, .int .i64 n1, .int .i64 who'], .agg #[.int .i64 who', .int .i64 ph, .int .i64 n0, .int .i64 n1, .int .i64 who'], .bool true]) ∧ Below W.heap.size W w' := hRN
            have HBD := Lib.hid hbd
            clear hNC hRN hbd
            go_wp2_with fail
            refine hNC'.mono ?_
            rintro e w3 ⟨rfl, CK2, g2⟩
            have MK2 := MK1.grown g2 (by simp; omega)
            have hB2 : Below w.heap.size w w3 := Below.grown hB1 g2 hB1.size (fun k hk => by injection hk with hk; omega)
            clear CK1 MK1 OK1 hB1 oc g2 hNC'
            have CK3 := Blk.alloc CK2 (.cells #[.int .i64 n0, .int .i64 n1, .int .i64 who'] 51)
            have MK3 := MK2.alloc (.cells #[.int .i64 n0, .int .i64 n1, .int .i64 who'] 51)
            have A3 := Blk.new w3 51 #[.int .i64 n0, .int .i64 n1, .int .i64 who']
            have hB3 := hB2.alloc hB2.size (.cells #[.int .i64 n0, .int .i64 n1, .int .i64 who'] 51)
            have l3 := MK2.lt
            go_upto_region 13 with fail
            clear CK2 MK2 hB2
            generalize w3.alloc (.cells #[.int .i64 n0, .int .i64 n1, .int .i64 who'] 51) = Y3 at *
            generalize w3.heap.size = ga at *
            have mc := MK3.cell
            go_wp2_with fail
            refine (hRN' _).mono ?_
            rintro e w4 ⟨rfl, b4⟩
            have CK4 := CK3.below b4 CK3.lt
            have MK4 := MK3.below b4 MK3.lt
            have A4 := A3.below b4 A3.lt
            have hB4 := hB3.trans (b4.mono hB3.size)
            have la := A4.lt
            clear CK3 MK3 A3 hB3 b4 mc hRN'
            go_upto_region 14 with fail
            have CK5 := (Blk.alloc CK4 (.cells #[.int .i64 n0, .int .i64 n1, .int .i64 who'] 51)).alloc (.cells #[.int .i64 who', .int .i64 ph, .int .i64 n0, .int .i64 n1, .int .i64 who'] 87)
            have MK5 := (MK4.alloc (.cells #[.int .i64 n0, .int .i64 n1, .int .i64 who'] 51)).alloc (.cells #[.int .i64 who', .int .i64 ph, .int .i64 n0, .int .i64 n1, .int .i64 who'] 87)
            have A5 := (A4.alloc (.cells #[.int .i64 n0, .int .i64 n1, .int .i64 who'] 51)).alloc (.cells #[.int .i64 who', .int .i64 ph, .int .i64 n0, .int .i64 n1, .int .i64 who'] 87)
            have B5 := (Blk.new w4 51 #[.int .i64 n0, .int .i64 n1, .int .i64 who']).alloc (.cells #[.int .i64 who', .int .i64 ph, .int .i64 n0, .int .i64 n1, .int .i64 who'] 87)
            have D5 : Blk ((w4.alloc (.cells #[.int .i64 n0, .int .i64 n1, .int .i64 who'] 51)).alloc (.cells #[.int .i64 who', .int .i64 ph, .int .i64 n0, .int .i64 n1, .int .i64 who'] 87)) (w4.heap.size + 1) 87 #[.int .i64 who', .int .i64 ph, .int .i64 n0, .int .i64 n1, .int .i64 who'] := by
              simpa using Blk.new (w4.alloc (.cells #[.int .i64 n0, .int .i64 n1, .int .i64 who'] 51)) 87 #[.int .i64 who', .int .i64 ph, .int .i64 n0, .int .i64 n1, .int .i64 who']
            have hB5 := (hB4.alloc hB4.size (.cells #[.int .i64 n0, .int .i64 n1, .int .i64 who'] 51)).alloc (by have := hB4.size; simp; omega) (.cells #[.int .i64 who', .int .i64 ph, .int .i64 n0, .int .i64 n1, .int .i64 who'] 87)
            clear CK4 MK4 A4 hB4
            generalize (w4.alloc (.cells #[.int .i64 n0, .int .i64 n1, .int .i64 who'] 51)).alloc (.cells #[.int .i64 who', .int .i64 ph, .int .i64 n0, .int .i64 n1, .int .i64 who'] 87) = Y5 at *
            generalize w4.heap.size = gb at *
            have mc := MK5.cell
            have mf := MK5.frozen
            have dc := D5.cell
            go_upto_region 15 with fail
            have CK9 := ((((Blk.far CK5 (p := ⟨gm, 0, none⟩) (by simp; omega) (.int .i64 who')).far (p := ⟨gm, 1, none⟩) (by simp; omega) (.int .i64 ph)).far (p := ⟨gm, 2, none⟩) (by simp; omega) (.int .i64 n0)).far (p := ⟨gm, 3, none⟩) (by simp; omega) (.int .i64 n1)).far (p := ⟨gm, 4, none⟩) (by simp; omega) (.int .i64 who')
            have A9 := ((((Blk.far A5 (p := ⟨gm, 0, none⟩) (by simp; omega) (.int .i64 who')).far (p := ⟨gm, 1, none⟩) (by simp; omega) (.int .i64 ph)).far (p := ⟨gm, 2, none⟩) (by simp; omega) (.int .i64 n0)).far (p := ⟨gm, 3, none⟩) (by simp; omega) (.int .i64 n1)).far (p := ⟨gm, 4, none⟩) (by simp; omega) (.int .i64 who')
            have B9 := ((((Blk.far B5 (p := ⟨gm, 0, none⟩) (by simp; omega) (.int .i64 who')).far (p := ⟨gm, 1, none⟩) (by simp; omega) (.int .i64 ph)).far (p := ⟨gm, 2, none⟩) (by simp; omega) (.int .i64 n0)).far (p := ⟨gm, 3, none⟩) (by simp; omega) (.int .i64 n1)).far (p := ⟨gm, 4, none⟩) (by simp; omega) (.int .i64 who')
            have MK9 : Blk (((((Y5.setCell ⟨gm, 0, none⟩ (.int .i64 who')).setCell ⟨gm, 1, none⟩ (.int .i64 ph)).setCell ⟨gm, 2, none⟩ (.int .i64 n0)).setCell ⟨gm, 3, none⟩ (.int .i64 n1)).setCell ⟨gm, 4, none⟩ (.int .i64 who')) gm 87 #[.int .i64 who', .int .i64 ph, .int .i64 n0, .int .i64 n1, .int .i64 who'] := by
              simpa using ((((MK5.set_ 0 (.int .i64 who')).set_ 1 (.int .i64 ph)).set_ 2 (.int .i64 n0)).set_ 3 (.int .i64 n1)).set_ 4 (.int .i64 who')
            have HB9 := ((((hB5.setCell (p := ⟨gm, 0, none⟩) (by simp; omega) (.int .i64 who')).setCell (p := ⟨gm, 1, none⟩) (by simp; omega) (.int .i64 ph)).setCell (p := ⟨gm, 2, none⟩) (by simp; omega) (.int .i64 n0)).setCell (p := ⟨gm, 3, none⟩) (by simp; omega) (.int .i64 n1)).setCell (p := ⟨gm, 4, none⟩) (by simp; omega) (.int .i64 who')
            clear CK5 MK5 A5 B5 D5 hB5 mc mf dc
            have ac := A9.cell
            have bc := B9.cell
            go_upto_region 24 with fail
            generalize hZ : ((((Y5.setCell ⟨gm, 0, none⟩ (.int .i64 who')).setCell ⟨gm, 1, none⟩ (.int .i64 ph)).setCell ⟨gm, 2, none⟩ (.int .i64 n0)).setCell ⟨gm, 3, none⟩ (.int .i64 n1)).setCell ⟨gm, 4, none⟩ (.int .i64 who') = Z at *
            clear hZ ac bc A9 B9
            have z1 := cell_regrown (show Z.cell? ⟨gm, 1, none⟩ = some (.int .i64 (ph)) by simpa using MK9.cell 1)
            have z2 := cell_regrown (show Z.cell? ⟨gm, 2, none⟩ = some (.int .i64 (n0)) by simpa using MK9.cell 2)
            have z3 := cell_regrown (show Z.cell? ⟨gm, 3, none⟩ = some (.int .i64 (n1)) by simpa using MK9.cell 3)
            have z4 := cell_regrown (show Z.cell? ⟨gm, 4, none⟩ = some (.int .i64 (who')) by simpa using MK9.cell 4)
            have cP : ∀ d os, Calls Try.prog 66 #[.pointer (some ⟨w.heap.size, 0, none⟩)] (grow (redrawn Z d) os) fun e w'' => e = .returned (.int .i64 (ph)) ∧ ∃ p : Regrown, w'' = grow (redrawn Z p.d) p.os :=
              fun d os => Calls.regrown_of ((clock_Phys w.heap.size _ _ _ _ _ _ (CK9.below (below_regrown Z d os) CK9.lt)).mono fun _ _ h => ⟨h.1, h.2 ▸ Below.refl _ _⟩)
            have cL : ∀ d os, Calls Try.prog 67 #[.pointer (some ⟨w.heap.size, 0, none⟩)] (grow (redrawn Z d) os) fun e w'' => e = .returned (.agg #[.int .i64 (n0), .int .i64 (n1), .int .i64 (who')]) ∧ ∃ p : Regrown, w'' = grow (redrawn Z p.d) p.os :=
              fun d os => Calls.regrown_of (clock_Last w.heap.size _ _ _ _ _ _ (CK9.below (below_regrown Z d os) CK9.lt))
            refine wp_region_quiet_below (by kernel_rfl) (by kernel_rfl) ?_
            repeat (go_big_quiet_step (first | exact cP _ _ | exact cL _ _))
            refine wpQuiet_nil ?_
            intro _ hw'
            obtain ⟨⟨dq, osq⟩, hw''⟩ := hw'
            subst hw''
            have CKF := CK9.below (below_regrown Z dq osq) CK9.lt
            have MKF := MK9.below (below_regrown Z dq osq) MK9.lt
            have HBF := below_regrown_of HB9 HB9.size dq osq
            go_wp2_with fail
            go_roundw
            case rel => exact ⟨i + 1, who', ph, n0, n1, who', by go_num, by omega, CKF, MKF, HBF, hph, (HBD.out (by simp))⟩
            case measure => simp [intOf]; omega
    · have hni : i = n := by omega
      subst hni
      clear CK MK B1 M1 hG1
      go_wp2_with fail
      refine (alive04 _).mono ?_
      rintro e w5 ⟨rfl, b5⟩
      go_wp2_with fail
      go_ret
      exact ⟨rfl, hB.trans (b5.mono hB.size)⟩
end Go.Proofs.Ytnaaknkknhediaa
