/- The walk of the law FrameCuts: it returns true, and nothing that was there ahead of the call has turned. -/
import Derived.Test.YtfebncpfhdgkpaaFrameF
import Derived.Test.YtfebncpfhdgkpaaFrameG
import Derived.Test.YtfebncpfhdgkpaaFrameH
import Derived.Test.YtfebncpfhdgkpaaFrameReadsWalk
import Derived.Test.YtfebncpfhdgkpaaMix
namespace Go.Proofs.Ytfebncpfhdgkpaa
open Go.RowKit Go.Sort

theorem Reads.takeN {w : World} {B n size : Nat} {A : Option Addr} {xs : List Value} (h : Reads w B size A n xs) (k : Nat) (hk : k ≤ n) : Reads w B size A k (xs.take (k * size)) := by
  have hks : k * size ≤ n * size := Nat.mul_le_mul_right _ hk
  refine ⟨by rw [List.length_take, h.1]; omega, fun h0 => ?_⟩
  obtain ⟨ad, hA, hb, hc⟩ := h.2 (by omega)
  refine ⟨ad, hA, hb, fun j u hu => hc j u ?_⟩
  have hj := (List.getElem?_eq_some_iff.1 hu).1
  rw [List.length_take] at hj
  rw [List.getElem?_take_of_lt (by omega)] at hu
  exact hu

set_option maxRecDepth 100000 in
set_option maxHeartbeats 4000000 in
theorem frame_cuts_walk (w : World) (A : Option Addr) (n c : Nat) (rs : List Rc) (hnc : n ≤ c) (_ : c ≤ maxLen) (hA : A = none → c = 0) (hl : rs.length = n) (hr : Reads w w.heap.size 1 A n (rs.map fun x : Rc => x.1)) (hR : ∀ x ∈ rs, RecR w w.heap.size x) (hS : ∀ x ∈ rs, x.2.length ≤ maxLen)
    (cut : Int) (wc : (Lit.int .i64 cut).wf = true) :
    Calls Try.prog 6 #[.slice A n c, .int .i64 cut] w fun e w' => e = .returned (.bool true) ∧ Below w.heap.size w w' := by
  obtain ⟨hw1, hw2⟩ := bounds_i64 wc
  by_cases hbig : 30 < n
  · have hd : decide (30 < (n : Int)) = true := by simp; omega
    have hc2 : c ≤ 9223372036854775807 := by simpa [maxLen] using ‹c ≤ maxLen›
    clear hA hl hr hR hS wc
    go_enter Try.func6, Try.ntmps6
    go_wp2_with fail
    go_ret
    exact ⟨rfl, Below.refl _ _⟩
  have hd : decide (30 < (n : Int)) = false := by simp; omega
  by_cases hneg : cut < 0
  · have hd2 : decide (cut < 0) = true := by simp; omega
    clear hA hl hr hR hS wc
    go_enter Try.func6, Try.ntmps6
    go_wp2_with fail
    go_ret
    exact ⟨rfl, Below.refl _ _⟩
  obtain ⟨k, rfl⟩ : ∃ k : Nat, cut = k := ⟨cut.toNat, by omega⟩
  have hd2 : decide ((k : Int) < 0) = false := by simp
  have hk : k ≤ 9223372036854775807 := by omega
  obtain ⟨ls, hls⟩ : ∃ ls : List (List UInt8), rs.map (fun x : Rc => x.2) = ls := ⟨_, rfl⟩
  have hlsl : ls.length = n := by rw [← hls, List.length_map, hl]
  have HR := Lib.hid hr
  have HRR := Lib.hid hR
  have HS := Lib.hid hS
  have HL := Lib.hid hl
  have HLS := Lib.hid hls
  have HLL := Lib.hid hlsl
  have HA := Lib.hid hA
  clear hr hR hS hl hls hlsl hA wc hw1 hw2
  go_enter Try.func6, Try.ntmps6
  go_wp2_with fail
  go_loopw [5, 6, 7, 8] (fun v5 v6 v7 v8 wr => ∃ i : Nat, v8 = .int .i64 i ∧ i ≤ n ∧ (∃ A5 m c5, v5 = .slice A5 m c5 ∧ m = (bsA (ls.take i)).length ∧ m ≤ 5000 ∧ Own wr w.heap.size (.slice A5 m c5) (bsA (ls.take i))) ∧ v6 = .int .i64 (mC ls k i : Nat) ∧ v7 = .int .i64 ((bsA (ls.take (mC ls k i))).length : Nat) ∧ (∀ x ∈ ls.take i, x.length ≤ 1000) ∧ Below w.heap.size w wr) (fun _ _ _ v8 _ => n - (intOf v8).toNat)
  case atStart => exact ⟨0, rfl, Nat.zero_le _, ⟨none, 0, 0, rfl, by simp [bsA], by omega, by simpa [bsA] using Own.nil_ _ _⟩, rfl, by simp [mC, bsA], by simp, Below.refl _ _⟩
  case round =>
    obtain ⟨i, rfl, hin, ⟨A5, m, c5, rfl, hm, hm5, hO⟩, rfl, rfl, hx, hB⟩ := hrel
    obtain ⟨mm, hmm⟩ : ∃ mm, mC ls k i = mm := ⟨_, rfl⟩
    obtain ⟨wh, hwh⟩ : ∃ wh, (bsA (ls.take mm)).length = wh := ⟨_, rfl⟩
    rw [hmm, hwh]
    have HMM := Lib.hid hmm
    have HWH := Lib.hid hwh
    have HM := Lib.hid hm
    have HX := Lib.hid hx
    clear hm hx hmm hwh
    by_cases hi : i < n
    · obtain ⟨b, off, hbo, hb, hc⟩ := Reads.form (HR.out.below hB) (by omega)
      subst hbo
      have hir : i < rs.length := by have := HL.out; omega
      have q0 := hc i rs[i].1 (by simp [hir])
      obtain ⟨Ai, ci, hei, Ri⟩ := HRR.out rs[i] (List.getElem_mem hir)
      have hli := HS.out rs[i] (List.getElem_mem hir)
      have hsn := bsA_snoc ls i (by have := HLL.out; omega)
      have hgi : ls[i]'(by have := HLL.out; omega) = rs[i].2 := by
        have h := HLS.out
        subst h
        simp
      rw [hgi] at hsn
      rw [hei] at q0
      generalize rs[i].2 = li at *
      have HSN := Lib.hid hsn
      obtain ⟨ni, hni⟩ : ∃ ni, li.length = ni := ⟨_, rfl⟩
      rw [hni] at q0 hli Ri
      have HNI := Lib.hid hni
      have HRi := Lib.hid Ri
      unfold maxLen at hli
      have HGI := Lib.hid hgi
      clear hc hei hsn hgi hni Ri
      by_cases h10 : 1000 < ni
      · have hd3 : decide (1000 < (ni : Int)) = true := by simp; omega
        go_wp2_with fail
        go_ret
        exact ⟨rfl, hB⟩
      have hd3 : decide (1000 < (ni : Int)) = false := by simp; omega
      have HC := Lib.hid (frame_Put wr w.heap.size (.slice A5 m c5) _ Ai ni ci li hO hB.size HNI.out (fun w1 hg => by
        have := Below.grown hB hg hB.size (fun q hq => (hO.lt q hq).1)
        exact (HRi.out.below this).more this.size) (by have := HM.out; omega))
      go_wp2_with fail
      refine HC.out.mono ?_
      rintro e w2 ⟨v2, rfl, o2, g2, _⟩
      clear HC q0
      replace hB := Below.grown hB g2 hB.size (fun q hq => (hO.lt q hq).1)
      clear hO g2
      rw [← HSN.out] at o2
      obtain ⟨A2, c2, rfl, _, _⟩ := o2.reads
      have hmc : mC ls k (i + 1) = if (bsA (ls.take (i + 1))).length ≤ k then i + 1 else mm := by rw [← HMM.out]; rfl
      generalize hm2 : (bsA (ls.take (i + 1))).length = m2 at *
      have HM2 := Lib.hid hm2
      have HO2 := Lib.hid o2
      have hlm : m2 ≤ 5000 + 9 + 1000 := by
        have h1 := HM.out
        have h2 := HNI.out
        have h3 := wput_length li.length (by omega)
        rw [← hm2, HSN.out, List.length_append]
        unfold wtext
        rw [List.length_append]
        omega
      have HX2 : Hid (∀ x ∈ ls.take (i + 1), x.length ≤ 1000) := Lib.hid (by
        intro x hx
        rw [List.take_succ_eq_append_getElem (by have := HLL.out; omega)] at hx
        rcases List.mem_append.1 hx with hx | hx
        · exact HX.out x hx
        · rw [List.mem_singleton] at hx
          rw [hx, HGI.out, HNI.out]
          omega)
      clear hm2 o2
      by_cases h50 : 5000 < m2
      · have hd4 : decide (5000 < (m2 : Int)) = true := by simp; omega
        go_wp2_with fail
        go_ret
        exact ⟨rfl, hB⟩
      have hd4 : decide (5000 < (m2 : Int)) = false := by simp; omega
      have HMC := Lib.hid hmc
      clear hmc
      by_cases hcut : m2 ≤ k
      · have hd5 : decide (m2 ≤ k) = true := by simp; omega
        go_wp2_with fail
        go_roundw
        case rel => exact ⟨i + 1, by go_num, by omega, ⟨_, m2, _, rfl, HM2.out.symm, by omega, HO2.out⟩, by rw [HMC.out, if_pos hcut]; go_num, by rw [HMC.out, if_pos hcut, HM2.out], HX2.out, hB⟩
        case measure => simp [intOf]; omega
      · have hd5 : decide (m2 ≤ k) = false := by simp; omega
        go_wp2_with fail
        go_roundw
        case rel => exact ⟨i + 1, by go_num, by omega, ⟨_, m2, _, rfl, HM2.out.symm, by omega, HO2.out⟩, by rw [HMC.out, if_neg hcut], by rw [HMC.out, if_neg hcut, HWH.out], HX2.out, hB⟩
        case measure => simp [intOf]; omega
    · have hie : i = n := by omega
      subst hie
      have htk : ls.take i = ls := by rw [List.take_of_length_le (by have := HLL.out; omega)]
      have HTK := Lib.hid htk
      obtain ⟨p, hp⟩ : ∃ p, min k m = p := ⟨_, rfl⟩
      have hpm : p ≤ m := by omega
      clear htk
      have hR5 : Reads wr wr.heap.size 1 A5 m ((bsA ls).map vb) ∧ m ≤ c5 ∧ (A5 = none → c5 = 0) := by
        obtain ⟨A', c', e5, hc', _, R⟩ := own_form hO
        obtain ⟨A'', c'', e6, _, R6⟩ := hO.reads
        injection e5 with e51 e52 e53
        injection e6 with e61 e62 e63
        subst e51 e53 e61 e63
        rw [HTK.out] at R6
        rw [HM.out, HTK.out]
        rw [← HTK.out] at R6 ⊢
        exact ⟨by rw [HTK.out] at R6 ⊢; exact R6, hc', by assumption⟩
      obtain ⟨R5, hmc5, hA5⟩ := hR5
      have HR5 := Lib.hid R5
      have HA5 := Lib.hid hA5
      have hkp : (p = k ∧ ¬ m < k) ∨ (p = m ∧ m < k) := by omega
      have hfr := frA_cut ls k (by
        intro r hr
        have := HX.out r (by rw [HTK.out]; exact hr)
        omega)
      rw [HLL.out, HMM.out, HWH.out] at hfr
      have hbl : (bsA ls).length = m := by rw [HM.out, HTK.out]
      have htp : (bsA ls).take k = (bsA ls).take p := by
        rcases hkp with ⟨h, _⟩ | ⟨h, h2⟩
        · rw [h]
        · rw [h, List.take_of_length_le (by omega), List.take_of_length_le (by omega)]
      rw [htp] at hfr
      have hpl : ((bsA ls).take p).length = p := by rw [List.length_take]; omega
      have hmm : mm ≤ i := by
        have := (mC_spec ls k ls.length (Nat.le_refl _)).1
        rw [HLL.out, HMM.out] at this
        omega
      have hwp : wh ≤ p := by
        have := congrArg List.length hfr.2
        rw [List.length_append, HWH.out, hpl] at this
        omega
      have htw : ((bsA ls).take p).take wh = bsA (ls.take mm) := by
        rw [hfr.2, List.take_append_of_le_length (by rw [HWH.out]; omega), List.take_of_length_le (by rw [HWH.out]; omega)]
      have HTW := Lib.hid htw
      have HFR := Lib.hid hfr.1
      have HPL := Lib.hid hpl
      clear hO R5 hin hi hp hA5 hfr hbl htp hpl htw
      rcases hkp with ⟨hpe, hmk⟩ | ⟨hpe, hmk⟩
      case' inl =>
        have hd6 : decide (m < k) = false := by simp; omega
        have HPE := Lib.hid hpe
        clear hpe
        go_wp2_with fail
        rw [← HPE.out]
      case' inr =>
        have hd6 : decide (m < k) = true := by simp; omega
        have HPE := Lib.hid hpe
        clear hpe
        go_wp2_with fail
        rw [← HPE.out]
      all_goals
        clear hd6 HPE hmk
        have HC := Lib.hid (bytes_Clone A5 p c5 ((bsA ls).take p) wr (HR5.out.take' p hpm) HA5.out (by omega))
        clear HA5
        refine HC.out.mono ?_
        rintro e w2 ⟨v2, rfl, o2, b2⟩
        clear HC HR5
        generalize (bsA ls).take p = L at *
        replace hB := hB.trans (b2.mono hB.size)
        obtain ⟨A2, c2, rfl, hc2, r2⟩ := o2.reads
        have hA2 : A2 = none → c2 = 0 := by
          obtain ⟨A', c', e5, _, h5, _⟩ := own_form o2
          injection e5 with e51 e52 e53
          subst e51 e53
          exact h5
        have HA2 := Lib.hid hA2
        clear hA2
        rw [HPL.out] at r2 hc2 ⊢
        have HO2 := Lib.hid o2
        have HR2 := Lib.hid r2
        have h2 := Below.refl w2.heap.size w2
        clear o2 r2 b2
        have HW := Lib.hid (fun d os => (frame_Whole A2 p c2 L (grow (redrawn w2 d) os) ((HR2.out.below (below_regrown w2 d os)).more (below_regrown w2 d os).size) hc2 (by omega)))
        have hne : ((wh : Int) != (wh : Int)) = false := by simp
        rw [HFR.out] at HW
        go_upto_region 16 with fail
        refine wp_region_mix [0, 2, 1, 3, 4, 5, 7, 8, 9, 6, 10, 11, 12] (by kernel_rfl) (by kernel_rfl) ?_
        iterate 2 (refine mix_calm rfl rfl ?_; go_big_quiet_step (fail); refine wpQuiet_nil ?_)
        refine mix_loud rfl (by kernel_rfl) ?_
        intro d1 os1 K1 hK1
        have HK := Lib.hid hK1
        clear hK1
        go_wp2_with fail
        refine (HW.out d1 os1).mono ?_
        rintro e W1 ⟨rfl, b1⟩
        replace b1 := (below_regrown w2 d1 os1).trans (b1.mono (below_regrown w2 d1 os1).size)
        go_wp2_with fail
        refine HK.out _ _ b1 ?_
        clear HK HW
        replace hB := hB.trans (b1.mono hB.size)
        replace h2 := h2.trans b1
        clear b1
        iterate 6 (refine mix_calm rfl rfl ?_; go_big_quiet_step (fail); refine wpQuiet_nil ?_)
        have HW := Lib.hid (fun d os => (law12_all A2 p c2 L (grow (redrawn W1 d) os) (((HR2.out.below h2).below ((below_regrown W1 d os).mono h2.size)).more (Nat.le_trans h2.size (below_regrown W1 d os).size)) hc2 (by omega)))
        refine mix_loud rfl (by kernel_rfl) ?_
        intro d1 os1 K1 hK1
        have HK := Lib.hid hK1
        clear hK1
        go_wp2_with fail
        refine (HW.out d1 os1).mono ?_
        rintro e W2 ⟨v6, rt, rfl, O6, hrt, hxt, b1⟩
        replace b1 := (below_regrown W1 d1 os1).trans (b1.mono (below_regrown W1 d1 os1).size)
        obtain ⟨A6, c6, rfl, hc6, _, R6⟩ := O6.reads
        rw [HFR.out] at hrt
        dsimp only at hrt
        have hrl : rt.length = mm := by
          have := congrArg List.length hrt
          rw [List.length_map, List.length_take, HLL.out] at this
          omega
        rw [hrl] at R6 ⊢
        go_wp2_with fail
        refine HK.out _ _ b1 ?_
        clear HK HW
        replace hB := hB.trans (b1.mono hB.size)
        replace h2 := h2.trans (b1.mono h2.size)
        have HRT := Lib.hid hrt
        have HR6 := Lib.hid R6
        have HX6 := Lib.hid hxt
        have HRL := Lib.hid hrl
        clear b1 O6 hrt R6 hxt hrl
        have HW := Lib.hid (fun d os => (show Calls Try.prog 30 #[.slice A6 mm c6, .slice A mm c] (grow (redrawn W2 d) os) fun e w' => e = .returned (.bool true) ∧ Below W2.heap.size W2 w' from by
          have bz := below_regrown W2 d os
          have hrm : (rs.take mm).map (fun x : Rc => x.1) = (rs.map fun x : Rc => x.1).take (mm * 1) := by rw [List.map_take, Nat.mul_one]
          have h8 := law12_same A6 A mm mm c6 c rt (rs.take mm) (grow (redrawn W2 d) os) ((HR6.out.below bz).more bz.size) (by rw [hrm]; exact (((HR.out.below hB).below (bz.mono hB.size)).more (Nat.le_trans hB.size bz.size)).takeN mm hmm) (fun x hx => by
            obtain ⟨A9, c9, h4, _, h5⟩ := (HX6.out x hx).reads
            exact ⟨A9, c9, h4, (h5.below bz).more bz.size⟩) (fun x hx => ((HRR.out x (List.mem_of_mem_take hx)).below (hB.trans (bz.mono hB.size))).more (Nat.le_trans hB.size bz.size)) (by omega) (fun x hx => by
            have h9 : x.2 ∈ ls.take mm := by rw [← HRT.out]; exact List.mem_map_of_mem hx
            have := HX.out x.2 (by rw [HTK.out]; exact List.mem_of_mem_take h9)
            omega)
          rw [decide_eq_true (by rw [HRT.out, List.map_take, HLS.out])] at h8
          exact h8.mono fun e w' ⟨h6, h7⟩ => ⟨h6, bz.trans (h7.mono bz.size)⟩))
        refine mix_loud rfl (by kernel_rfl) ?_
        intro d1 os1 K1 hK1
        have HK := Lib.hid hK1
        clear hK1
        go_wp2_with fail
        refine (HW.out d1 os1).mono ?_
        rintro e W3 ⟨rfl, b1⟩
        go_wp2_with fail
        refine HK.out _ _ b1 ?_
        clear HK HW HR6 HX6 HRT
        replace hB := hB.trans (b1.mono hB.size)
        replace h2 := h2.trans (b1.mono h2.size)
        clear b1
        iterate 2 (refine mix_calm rfl rfl ?_; go_big_quiet_step (fail); refine wpQuiet_nil ?_)
        refine mix_end ?_
        intro w4 hw4
        have b1 := below_of_mix hw4
        replace hB := hB.trans (b1.mono hB.size)
        replace h2 := h2.trans (b1.mono h2.size)
        clear b1 hw4
        have hwc : (wh : Int) ≤ c2 := by omega
        go_wp2_with fail
        have HC := Lib.hid (bytes_Clone A2 wh c2 (bsA (ls.take mm)) w4 (by
          have h9 := ((HR2.out.below h2).more h2.size).take' wh hwp
          rw [HTW.out] at h9
          exact h9) HA2.out (by omega))
        refine HC.out.mono ?_
        clear HC
        rintro e w5 ⟨v5, rfl, o5, b5⟩
        have hs4 := hB.size
        replace hB := hB.trans (b5.mono hB.size)
        clear h2 HTW HPL HO2 HR2 HA2 HTK
        have HWH2 : Hid ((bsA (ls.take mm)).length ≤ 5000) := Lib.hid (by rw [HWH.out]; omega)
        have HLT : Hid ((ls.take mm).length = mm) := Lib.hid (by rw [List.length_take, HLL.out]; omega)
        have HFR2 : Hid ((frA (bsA (ls.take mm) ++ wtext [5])).1 = ls.take mm ++ [[5]]) := Lib.hid (by
          rw [frA_bs _ _ (fun r hr => by
            have := HX.out r (List.mem_of_mem_take (i := mm) (by rw [List.take_take, Nat.min_eq_left hmm]; exact hr))
            omega)]
          rw [show wtext [5] = wtext [5] ++ [] by simp, frA_put [5] [] (by simp), frA_nil])
        have O3 := own_lit w5 [5] (by decide)
        change Own (w5.alloc (.cells #[.int .u8 5] 5)) _ _ _ at O3
        have o5' := o5.alloc (.cells #[.int .u8 5] 5)
        have hlt5 := fun q hq => (o5.lt q hq).2
        have hge5 := fun q hq => (o5.lt q hq).1
        have b5s := b5.size
        have HC := Lib.hid (frame_Put (w5.alloc (.cells #[.int .u8 5] 5)) w4.heap.size v5 (bsA (ls.take mm)) (some ⟨w5.heap.size, 0, none⟩) 1 1 [5] o5' (by simp; omega) rfl (fun w2 hg => by
          obtain ⟨A1, c1, e, _, R⟩ := (O3.kept hg (.inr (fun e => by have h9 : v5.ownBlock = some w5.heap.size := e.symm; have := hlt5 _ h9; omega))).reads
          injection e with e1 e2 e3
          rw [e1]
          exact R) (by have := HWH2.out; omega))
        replace hB := hB.alloc hB.size (.cells #[.int .u8 5] 5)
        have H5 := Lib.hid (And.intro hlt5 hge5)
        clear O3 o5 o5' hlt5 hge5 b5
        go_wp2_with fail
        refine HC.out.mono ?_
        clear HC
        rintro e w6 ⟨v6, rfl, o6, g6, _⟩
        replace hB := Below.grown hB g6 hB.size (fun q hq => by have := H5.out.2 q hq; omega)
        clear g6 H5 b5s
        obtain ⟨A6, c6, rfl, hc6, r6⟩ := o6.reads
        have hl6 : (bsA (ls.take mm) ++ wtext [5]).length ≤ 6000 := by
          have h9 := wput_length ([5] : List UInt8).length (by simp)
          have := HWH2.out
          rw [List.length_append]
          unfold wtext
          simp at h9 ⊢
          omega
        have HC := Lib.hid (law12_all A6 _ c6 _ w6 r6 hc6 (by omega))
        rw [HFR2.out] at HC
        generalize (bsA (ls.take mm) ++ wtext [5]).length = n6 at *
        clear r6 o6 hl6 HFR2
        go_wp2_with fail
        refine HC.out.mono ?_
        clear HC
        rintro e w7 ⟨v7, rt, rfl, O7, hrt, hxt, b7⟩
        replace hB := hB.trans (b7.mono hB.size)
        have hrl : rt.length = mm + 1 := by
          have := congrArg List.length hrt
          rw [List.length_map, List.length_append, HLT.out] at this
          simpa using this
        obtain ⟨A7, c7, rfl, hc7, _, R7⟩ := O7.reads
        rw [hrl] at R7 ⊢
        obtain ⟨b9, off9, hb9, _, hcell⟩ := Reads.form R7 (by omega)
        subst hb9
        have hml : mm < rt.length := by omega
        have q0 := hcell mm rt[mm].1 (by simp [hml])
        have hx9 := hxt rt[mm] (List.getElem_mem hml)
        have hr9 : rt[mm].2 = [5] := by
          have h9 := congrArg (·[mm]?) hrt
          simp only [List.getElem?_map, List.getElem?_eq_getElem hml, Option.map_some] at h9
          rw [List.getElem?_append_right (by rw [HLT.out]; omega), HLT.out] at h9
          simpa using h9
        rw [hr9] at hx9
        obtain ⟨A9, c9, e9, _, r9⟩ := hx9.reads
        rw [e9] at q0
        have R9 := Lib.hid r9
        have HRL := Lib.hid hrl
        have hmm2 : mm ≤ 30 := by omega
        clear hrt hcell hxt hr9 hx9 e9 r9 hrl R7 O7 hml b7
        simp only [List.length_singleton] at q0
        go_wp2_with fail
        have HC := Lib.hid (bytes_Equal A9 (some ⟨w7.heap.size, 0, none⟩) 1 1 c9 1 [5] [5] (w7.alloc (.cells #[.int .u8 5] 5)) ((R9.out.alloc (Nat.le_refl _) _).more (by simp)) (reads_one w7 5 5 _ rfl) (by omega))
        rw [decide_eq_true rfl] at HC
        replace hB := hB.alloc hB.size (.cells #[.int .u8 5] 5)
        refine HC.out.mono ?_
        clear HC
        rintro e w8 ⟨rfl, b8⟩
        replace hB := hB.trans (b8.mono hB.size)
        go_wp2_with fail
        refine (alive12 w8).mono ?_
        rintro e w9 ⟨rfl, b9⟩
        replace hB := hB.trans (b9.mono hB.size)
        go_wp2_with fail
        go_ret
        exact ⟨rfl, hB⟩
end Go.Proofs.Ytfebncpfhdgkpaa
