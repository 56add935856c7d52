/- The walk of the law StampRises: it returns true, and nothing that was there ahead of the call has turned. -/
import Derived.Test.YtnaaknkknhediaaStampI
import Derived.Test.YtnaaknkknhediaaStampPlaysWalk
namespace Go.Proofs.Ytnaaknkknhediaa
open Go.RowKit Go.Sort

/-- While the operations are played: each stamp of the row is ahead of the clock's last one, or is it. -/
def RiseRel (w : World) (g n : Nat) (who : Int) (v8 v9 : Value) (wr : World) : Prop :=
  ∃ (i : Nat) (ph l0 l1 l2 : Int) (S : List (Int × Int × Int)), v9 = .int .i64 i ∧ i ≤ n ∧ Clk wr g who ph l0 l1 l2 ∧ Sts wr (g + 1) v8 S ∧ g < wr.heap.size ∧
    Below w.heap.size w wr ∧ (0 ≤ ph ∧ ph ≤ 1099511627776) ∧ (0 ≤ l1 ∧ l1 ≤ 1099511627776) ∧ (∀ s ∈ S, cmpS s.1 s.2.1 s.2.2 l0 l1 l2 ≤ 0) ∧ S.length ≤ i

theorem rise_le {S : List (Int × Int × Int)} {l0 l1 l2 m0 m1 m2 : Int} (h : ∀ s ∈ S, cmpS s.1 s.2.1 s.2.2 l0 l1 l2 ≤ 0) (hm : cmpS l0 l1 l2 m0 m1 m2 ≤ 0) : ∀ s ∈ S, cmpS s.1 s.2.1 s.2.2 m0 m1 m2 ≤ 0 := by
  intro s hs
  have h1 := h s hs
  have h2 := cmpS_gt s.1 s.2.1 s.2.2 l0 l1 l2
  have h3 := cmpS_gt l0 l1 l2 m0 m1 m2
  have h4 := cmpS_gt s.1 s.2.1 s.2.2 m0 m1 m2
  omega
theorem rise_snoc {S : List (Int × Int × Int)} {m : Int × Int × Int} {m0 m1 m2 : Int} (h : ∀ s ∈ S, cmpS s.1 s.2.1 s.2.2 m0 m1 m2 ≤ 0) (hm : cmpS m.1 m.2.1 m.2.2 m0 m1 m2 ≤ 0) : ∀ s ∈ S ++ [m], cmpS s.1 s.2.1 s.2.2 m0 m1 m2 ≤ 0 := by
  intro s hs
  rcases List.mem_append.1 hs with h1 | h1
  · exact h s h1
  · rw [List.mem_singleton.1 h1]; exact hm
theorem rise_next {l0 l1 l2 ph who : Int} (s : Int × Int × Int) (h : cmpS s.1 s.2.1 s.2.2 l0 l1 l2 ≤ 0) : cmpS s.1 s.2.1 s.2.2 (nx0 ph l0) (nx1 ph l0 l1) who < 0 := by
  have h2 := cmpS_gt s.1 s.2.1 s.2.2 l0 l1 l2
  have h3 := cmpS_lt s.1 s.2.1 s.2.2 (nx0 ph l0) (nx1 ph l0 l1) who
  rw [h3]
  unfold nx0 nx1
  omega

set_option maxRecDepth 100000 in
set_option maxHeartbeats 2000000 in
theorem stamp_rises_walk (w : World) (who : Int) (_ : (Lit.int .i64 who).wf = true) (phys : Int) (_ : (Lit.int .i64 phys).wf = true) (A : Option Addr) (n c : Nat) (_ : n ≤ c) (_ : c ≤ maxLen) (hO : Ops w w.heap.size A n) :
    Calls Try.prog 11 #[.int .i64 who, .int .i64 phys, .slice A n c] w fun e w' => e = .returned (.bool true) ∧ Below w.heap.size w w' := by
  by_cases hn : 100 < n ∨ who < 0 ∨ 1099511627776 < who
  · have hd : decide (100 < (n : Int)) = true ∨ (decide (100 < (n : Int)) = false ∧ decide (who < 0) = true) ∨ (decide (100 < (n : Int)) = false ∧ decide (who < 0) = false ∧ decide (1099511627776 < who) = true) := by simp; omega
    rcases hd with hd | ⟨hd, hd1⟩ | ⟨hd, hd1, hd2⟩
    all_goals
      go_enter Try.func11, Try.ntmps11
      go_wp2_with fail
      go_ret
      exact ⟨rfl, Below.refl _ _⟩
  have hd : decide (100 < (n : Int)) = false := by simp; omega
  have hd1 : decide (who < 0) = false := by simp; omega
  have hd2 : decide (1099511627776 < who) = false := by simp; omega
  have hcw : cutS who = who := by unfold cutS; omega
  have hn100 : n ≤ 100 := by omega
  have HO := Lib.hid hO
  clear hO hn
  go_enter Try.func11, Try.ntmps11
  go_wp2_with fail
  refine (stamp_New who phys w).mono ?_
  rw [hcw]
  clear hcw
  rintro e w1 ⟨rfl, rfl⟩
  have CK := Blk.new w 111 #[.int .i64 who, .int .i64 (cutS phys), .int .i64 0, .int .i64 0, .int .i64 0]
  have hB : Below w.heap.size w (w.alloc (.cells #[.int .i64 who, .int .i64 (cutS phys), .int .i64 0, .int .i64 0, .int .i64 0] 111)) := (Below.refl _ _).alloc (Nat.le_refl _) _
  generalize w.alloc (.cells #[.int .i64 who, .int .i64 (cutS phys), .int .i64 0, .int .i64 0, .int .i64 0] 111) = W at *
  have hr := cutS_range phys
  go_wp2_with fail
  go_loopw [8, 9] (fun v8 v9 wr => RiseRel w w.heap.size n who v8 v9 wr) (fun _ v9 _ => n - (intOf v9).toNat)
  case atStart => exact ⟨0, cutS phys, 0, 0, 0, [], rfl, Nat.zero_le _, CK, Sts.nil_ _ _, CK.lt, hB, hr, by decide, by simp, Nat.le_refl _⟩
  case round =>
    clear CK hB hr
    obtain ⟨i, ph, l0, l1, l2, S, rfl, hin, CK, SS, hgs, hB, hph, hl1, hS, hSl⟩ := hrel
    have HS := Lib.hid hS
    clear hS
    by_cases hi : i < n
    · obtain ⟨b, o, k, m, s0, s1, s2, rfl, hb, q0, q1, q2, q3, q4⟩ := (HO.out.below hB) i hi
      have OK := Blk.new wr 76 #[.int .i64 k, .int .i64 m, .int .i64 s0, .int .i64 s1, .int .i64 s2]
      have hs1 := hB.size
      go_upto_region 11 with fail
      clear q0 q1 q2 q3 q4
      replace CK := Blk.alloc CK (.cells #[.int .i64 k, .int .i64 m, .int .i64 s0, .int .i64 s1, .int .i64 s2] 76)
      replace SS := SS.alloc (.cells #[.int .i64 k, .int .i64 m, .int .i64 s0, .int .i64 s1, .int .i64 s2] 76)
      replace hB := hB.alloc hB.size (.cells #[.int .i64 k, .int .i64 m, .int .i64 s0, .int .i64 s1, .int .i64 s2] 76)
      generalize wr.alloc (.cells #[.int .i64 k, .int .i64 m, .int .i64 s0, .int .i64 s1, .int .i64 s2] 76) = X at *
      generalize wr.heap.size = go at *
      have oc := OK.cell
      by_cases h0 : k.tmod 3 = 0
      · have hk0 : (k.tmod 3 == 0) = true := by simp [h0]
        clear h0
        go_wp2_with fail
        refine (clock_Tick w.heap.size who ph l0 l1 l2 m X CK hph).mono ?_
        rintro e w3 ⟨rfl, CK2, g2⟩
        replace SS := SS.kept g2 (SS.ne (Nat.lt_succ_self _))
        replace hB : Below w.heap.size w w3 := Below.grown hB g2 hB.size (fun k hk => by injection hk with hk; omega)
        have hr9 := cutS_range (ph + cutS m)
        clear CK OK oc
        have hz := Blk.lt CK2
        go_wp2_with fail
        go_roundw
        case rel => exact ⟨i + 1, cutS (ph + cutS m), l0, l1, l2, S, by go_num, by omega, CK2, SS, hz, hB, hr9, hl1, HS.out, by omega⟩
        case measure => simp [intOf]; omega
      · have hk0 : (k.tmod 3 == 0) = false := by simp [h0]
        by_cases h1 : k.tmod 3 = 1
        · have hk1 : (k.tmod 3 == 1) = true := by simp [h1]
          clear h0 h1
          obtain ⟨m0, m1, m2, hM, hm1, hle1, hle2⟩ : ∃ m0 m1 m2 : Int, (if cmpS l0 l1 l2 s0 s1 s2 < 0 then Value.agg #[.int .i64 s0, .int .i64 s1, .int .i64 s2] else .agg #[.int .i64 l0, .int .i64 l1, .int .i64 l2]) = .agg #[.int .i64 m0, .int .i64 m1, .int .i64 m2] ∧
              (rightB s0 s1 s2 = true → 0 ≤ m1 ∧ m1 ≤ 1099511627776) ∧ cmpS l0 l1 l2 m0 m1 m2 ≤ 0 ∧ cmpS s0 s1 s2 m0 m1 m2 ≤ 0 := by
            have q1 := cmpS_gt l0 l1 l2 l0 l1 l2
            have q2 := cmpS_gt s0 s1 s2 s0 s1 s2
            have q3 := cmpS_gt s0 s1 s2 l0 l1 l2
            have q4 := cmpS_lt l0 l1 l2 s0 s1 s2
            split
            · exact ⟨_, _, _, rfl, (fun h => by unfold rightB at h; simp at h; omega), by omega, by omega⟩
            · exact ⟨_, _, _, rfl, (fun _ => hl1), by omega, by omega⟩
          have HM := Lib.hid hM
          have HL1 := Lib.hid hle1
          have HL2 := Lib.hid hle2
          have hM1 := Lib.hid hm1
          clear hM hle1 hle2 hm1
          go_wp2_with fail
          refine (clock_See w.heap.size who ph l0 l1 l2 s0 s1 s2 m0 m1 m2 X CK HM.out).mono ?_
          rintro e w3 ⟨rfl, CKt, CKf, g2⟩
          replace OK := OK.grown g2 (by simp; omega)
          replace SS := SS.kept g2 (SS.ne (Nat.lt_succ_self _))
          replace hB : Below w.heap.size w w3 := Below.grown hB g2 hB.size (fun k hk => by injection hk with hk; omega)
          clear oc
          have oc := OK.cell
          have hz3 := g2.size
          clear CK g2
          go_wp2_with fail
          refine (stamp_Right s0 s1 s2 _).mono ?_
          rintro e w4 ⟨rfl, b4⟩
          replace OK := OK.below b4 OK.lt
          replace SS := SS.below b4
          replace hB := hB.trans (b4.mono hB.size)
          clear oc
          have hz4 := b4.size
          generalize hrr : rightB s0 s1 s2 = rb at *
          cases rb with
          | false =>
            have CK : Clk w4 w.heap.size who ph l0 l1 l2 := Blk.below (CKf rfl) b4 (Blk.lt (CKf rfl))
            have hzz := Blk.lt CK
            clear CKt CKf b4 OK
            go_wp2_with fail
            go_roundw
            case rel => exact ⟨i + 1, ph, l0, l1, l2, S, by go_num, by omega, CK, SS, hzz, hB, hph, hl1, HS.out, by omega⟩
            case measure => simp [intOf]; omega
          | true =>
            have CK : Clk w4 w.heap.size who ph m0 m1 m2 := Blk.below (CKt rfl) b4 (Blk.lt (CKt rfl))
            have oc := OK.cell
            have hzz := Blk.lt CK
            clear CKt CKf b4
            have hSl1 : S.length ≤ 100000000 := by omega
            go_wp2_with (at_builtin; refine append_stamp w4 (s0, s1, s2) _ rfl _ _ rfl (w.heap.size + 1) _ S rfl SS rfl hSl1 (by omega) ?_; intro v5 w5 SS5 g5 L5)
            have CK5 : Clk w5 w.heap.size who ph m0 m1 m2 := Blk.grown CK g5 (SS.ne' (Nat.lt_succ_self _))
            have hz5 := Blk.lt CK5
            have hB5 := below_own hB hB.size SS (Nat.le_succ _) g5
            have hS5 := rise_snoc (m := (s0, s1, s2)) (rise_le HS.out HL1.out) HL2.out
            go_roundw
            case rel => exact ⟨i + 1, ph, m0, m1, m2, S ++ [(s0, s1, s2)], by go_num, by omega, CK5, SS5, hz5, hB5, hph, hM1.out (by first | rfl | trivial), hS5, by simp; omega⟩
            case measure => simp [intOf]; omega
        · have hk1 : (k.tmod 3 == 1) = false := by simp [h1]
          clear h0 h1
          have hNC := clock_Now w.heap.size who ph l0 l1 l2 X CK (by omega)
          have hbd : rightB (nx0 ph l0) (nx1 ph l0 l1) who = true → 0 ≤ nx1 ph l0 l1 ∧ nx1 ph l0 l1 ≤ 1099511627776 := fun h => by unfold rightB at h; simp at h; omega
          have hrise : ∀ s ∈ S, cmpS s.1 s.2.1 s.2.2 (nx0 ph l0) (nx1 ph l0 l1) who < 0 := fun s hs => rise_next s (HS.out s hs)
          generalize hrr : rightB (nx0 ph l0) (nx1 ph l0 l1) who = rb at hNC hbd
          generalize nx0 ph l0 = n0 at hNC hbd hrr hrise
          generalize nx1 ph l0 l1 = n1 at hNC hbd hrr hrise
          have HR := Lib.hid hrise
          clear hrise
          cases rb with
          | false =>
            have hNC' := hNC.mono fun _ _ h => h.2 rfl
            clear hNC hbd hrr HR
            go_wp2_with fail
            refine hNC'.mono ?_
            rintro e w3 ⟨rfl, CK2, g2⟩
            replace SS := SS.kept g2 (SS.ne (Nat.lt_succ_self _))
            replace hB : Below w.heap.size w w3 := Below.grown hB g2 hB.size (fun k hk => by injection hk with hk; omega)
            clear CK OK oc g2
            have CK := Blk.alloc CK2 (.cells #[.int .i64 0, .int .i64 0, .int .i64 0] 51)
            replace SS := SS.alloc (.cells #[.int .i64 0, .int .i64 0, .int .i64 0] 51)
            replace hB := hB.alloc hB.size (.cells #[.int .i64 0, .int .i64 0, .int .i64 0] 51)
            clear CK2
            have hzz := Blk.lt CK
            go_wp2_with fail
            refine wp_loop_rounds 1 ?_
            rw [rounds_succ]
            go_wp2_with fail
            go_roundw
            case rel => exact ⟨i + 1, ph, l0, l1, l2, S, by go_num, by omega, CK, SS, hzz, hB, hph, hl1, HS.out, by omega⟩
            case measure => simp [intOf]; omega
          | true =>
            have hNC' := hNC.mono fun _ _ h => h.1 rfl
            have hl1' := hbd rfl
            have HRB := Lib.hid hrr
            clear hNC hbd hrr
            go_wp2_with fail
            refine hNC'.mono ?_
            rintro e w3 ⟨rfl, CK2, g2⟩
            replace SS := SS.kept g2 (SS.ne (Nat.lt_succ_self _))
            replace hB : Below w.heap.size w w3 := Below.grown hB g2 hB.size (fun k hk => by injection hk with hk; omega)
            clear CK OK oc g2
            have CK := Blk.alloc CK2 (.cells #[.int .i64 n0, .int .i64 n1, .int .i64 who] 51)
            replace SS := SS.alloc (.cells #[.int .i64 n0, .int .i64 n1, .int .i64 who] 51)
            replace hB := hB.alloc hB.size (.cells #[.int .i64 n0, .int .i64 n1, .int .i64 who] 51)
            have ZK := Blk.new w3 51 #[.int .i64 n0, .int .i64 n1, .int .i64 who]
            clear CK2
            have hzz := Blk.lt CK
            go_wp2_with fail
            generalize w3.alloc (.cells #[.int .i64 n0, .int .i64 n1, .int .i64 who] 51) = Y at *
            generalize w3.heap.size = gz at *
            obtain ⟨AS, cS, rfl, _⟩ := own_form SS
            go_loopw [13] (fun v13 wr2 => ∃ k : Nat, v13 = .int .i64 k ∧ k ≤ S.length ∧ Clk wr2 w.heap.size who ph n0 n1 who ∧ Sts wr2 (w.heap.size + 1) (.slice AS S.length cS) S ∧ Blk wr2 gz 51 #[.int .i64 n0, .int .i64 n1, .int .i64 who] ∧ Below w.heap.size w wr2) (fun v13 _ => S.length - (intOf v13).toNat)
            case atStart => exact ⟨0, rfl, Nat.zero_le _, CK, SS, ZK, hB⟩
            case round =>
              clear CK SS ZK hB hzz
              obtain ⟨q, rfl, hq, CK, SS, ZK, hB⟩ := hrel
              by_cases hqS : q < S.length
              · obtain ⟨gb, cS', hv, hgb, q0, q1, q2⟩ := SS.at_ hqS
                injection hv with hA _ hc
                subst hA hc
                have h1 : decide (cmpS S[q].1 S[q].2.1 S[q].2.2 n0 n1 who < 0) = true := by simp; exact HR.out _ (List.getElem_mem hqS)
                go_upto_region 16 with fail
                have z0 := ZK.cell 0
                have z1 := ZK.cell 1
                have z2 := ZK.cell 2
                simp at z0 z1 z2
                have y0 := cell_regrown z0
                have y1 := cell_regrown z1
                have y2 := cell_regrown z2
                have r0 := cell_regrown q0
                have r1 := cell_regrown q1
                have r2 := cell_regrown q2
                have cL : ∀ d os, Calls Try.prog 45 #[.agg #[.int .i64 S[q].1, .int .i64 S[q].2.1, .int .i64 S[q].2.2], .agg #[.int .i64 n0, .int .i64 n1, .int .i64 who]] (grow (redrawn wr d) os) fun e w'' => e = .returned (.bool true) ∧ ∃ p : Regrown, w'' = grow (redrawn wr p.d) p.os :=
                  fun d os => Calls.regrown_of ((stamp_Less _ _ _ _ _ _ _).mono fun _ _ h => ⟨by rw [h.1, h1], h.2⟩)
                refine wp_region_quiet_below (by kernel_rfl) (by kernel_rfl) ?_
                repeat (go_big_quiet_step (exact cL _ _))
                refine wpQuiet_nil ?_
                intro _ hw'
                obtain ⟨⟨dq, osq⟩, hw''⟩ := hw'
                subst hw''
                replace CK : Clk _ _ _ _ _ _ _ := Blk.below CK (below_regrown wr dq osq) (Blk.lt CK)
                replace SS := SS.below (below_regrown wr dq osq)
                replace ZK := ZK.below (below_regrown wr dq osq) ZK.lt
                replace hB := below_regrown_of hB hB.size dq osq
                go_wp2_with fail
                go_roundw
                case rel => exact ⟨q + 1, by go_num, by omega, CK, SS, ZK, hB⟩
                case measure => simp [intOf]; omega
              · have hqe : q = S.length := by omega
                have hlt : decide ((q : Int) < (S.length : Int)) = false := by simp; omega
                have zc := ZK.cell
                have hSl1 : S.length ≤ 100000000 := by omega
                go_wp2_with fail
                refine (stamp_Right n0 n1 who _).mono ?_
                rw [HRB.out]
                rintro e w5 ⟨rfl, b5⟩
                replace CK : Clk _ _ _ _ _ _ _ := Blk.below CK b5 (Blk.lt CK)
                replace SS := SS.below b5
                replace ZK := ZK.below b5 ZK.lt
                replace hB := hB.trans (b5.mono hB.size)
                clear zc
                have zc := ZK.cell
                go_wp2_with (at_builtin; refine append_stamp w5 (n0, n1, who) _ rfl _ _ rfl (w.heap.size + 1) _ S rfl SS rfl hSl1 (by have := Blk.lt CK; omega) ?_; intro v6 w6 SS6 g6 L6)
                have CK6 : Clk w6 w.heap.size who ph n0 n1 who := Blk.grown CK g6 (SS.ne' (Nat.lt_succ_self _))
                have hz6 := Blk.lt CK6
                have hB6 := below_own hB hB.size SS (Nat.le_succ _) g6
                have hS6 : ∀ s ∈ S ++ [(n0, n1, who)], cmpS s.1 s.2.1 s.2.2 n0 n1 who ≤ 0 := rise_snoc (fun s hs => by have := HR.out s hs; omega) (by have := cmpS_gt n0 n1 who n0 n1 who; simp only; omega)
                go_roundw
                case rel => exact ⟨i + 1, ph, n0, n1, who, S ++ [(n0, n1, who)], by go_num, by omega, CK6, SS6, hz6, hB6, hph, hl1', hS6, by simp; omega⟩
                case measure => simp [intOf]; omega
    · have hni : i = n := by omega
      subst hni
      go_wp2_with fail
      refine (alive04 _).mono ?_
      rintro e w5 ⟨rfl, b5⟩
      go_wp2_with fail
      go_ret
      exact ⟨rfl, hB.trans (b5.mono hB.size)⟩
end Go.Proofs.Ytnaaknkknhediaa
