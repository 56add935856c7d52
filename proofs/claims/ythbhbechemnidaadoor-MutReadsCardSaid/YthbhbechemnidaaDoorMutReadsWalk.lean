/- The walk of the law MutReads: it returns true, and nothing that was there ahead of the call has turned. -/
import Derived.Test.YthbhbechemnidaaDoorMutU
import Derived.Test.YthbhbechemnidaaDoorMutR
import Derived.Test.YthbhbechemnidaaDoorMutK
import Derived.Test.YthbhbechemnidaaDoorMutL
import Derived.Test.YthbhbechemnidaaDoorRdrAt
namespace Go.Proofs.YthbhbechemnidaaDoor
open Go.RowKit Go.Sort

theorem cmpI_self (a : Int) : cmpI a a = 0 := by unfold cmpI; simp
theorem cmp3_self (s : Int × Int × Int) : cmp3 s s = 0 := by unfold cmp3 cmpS or3; simp [cmpI_self]
theorem cmpT_self (a : ByteArray) : cmpT a a = 0 := (cmpT_zero a a).2 rfl
theorem cmpR_self : ∀ l : List (Int × Int × Int), cmpR l l = 0
  | [] => rfl
  | a :: l => by
    show (if cmp3 a a = 0 then cmpR l l else cmp3 a a) = 0
    rw [if_pos (cmp3_self a), cmpR_self l]
theorem cmpM_self (m : Mut) : cmpM m m = 0 := by
  unfold cmpM
  rw [cmp3_self, cmpI_self, cmpI_self, cmpT_self, cmpT_self, cmpT_self, cmpI_self, cmpR_self]
  rfl
theorem reads_take {w : World} {B n : Nat} {A : Option Addr} {L : List UInt8} (h : Reads w B 1 A n (L.map vb)) (k : Nat) (hk : k ≤ n) : Reads w B 1 A k ((L.take k).map vb) := by
  have hl := h.len
  refine ⟨by simp; omega, fun h0 => ?_⟩
  obtain ⟨ad, hA, hb, hc⟩ := h.2 (by omega)
  refine ⟨ad, hA, hb, fun j u hu => hc j u ?_⟩
  rw [List.map_take] at hu
  have hj := (List.getElem?_eq_some_iff.1 hu).1
  rw [List.length_take] at hj
  rw [List.getElem?_take_of_lt (by omega)] at hu
  exact hu

set_option maxRecDepth 100000 in
set_option maxHeartbeats 4000000 in
theorem mut_reads_walk (w : World) (hT : Tabs w) (A0 : Option Addr) (n0 c0 : Nat) (l : List UInt8) (hnc : n0 ≤ c0) (hc0 : c0 ≤ maxLen) (hl0 : l.length = n0) (hr0 : Reads w w.heap.size 1 A0 n0 (l.map vb)) (hA0 : A0 = none → c0 = 0) :
    Calls Tryd.prog 7 #[.slice A0 n0 c0] w fun e w' => e = .returned (.bool true) ∧ Below w.heap.size w w' := by
  have hn0 : n0 ≤ 9223372036854775807 := by unfold maxLen at hc0; omega
  by_cases h2000 : 2000 < n0
  · have hd : decide (2000 < (n0 : Int)) = true := by simp; omega
    clear h2000 hr0 hl0 hA0 hT
    go_enter Tryd.func7, Tryd.ntmps7
    go_wp2_with fail
    go_ret
    exact ⟨rfl, Below.refl _ _⟩
  have hd : decide (2000 < (n0 : Int)) = false := by simp; omega
  have hs2000 : n0 ≤ 2000 := by omega
  have HT := Lib.hid hT
  have HR0 := Lib.hid hr0
  have HL0 := Lib.hid hl0
  have HA0 := Lib.hid hA0
  have hcm : c0 ≤ 9223372036854775807 := by unfold maxLen at hc0; omega
  clear hT hr0 hl0 hA0 h2000 hn0 hc0
  go_enter Tryd.func7, Tryd.ntmps7
  go_wp2_with fail
  clear hd
  refine (bytes_Clone A0 n0 c0 l w HR0.out HA0.out (by omega)).mono ?_
  rintro y u1 ⟨v1, rfl, O1, hB⟩
  obtain ⟨A1, c1, rfl, hc1, R1⟩ := O1.reads
  rw [HL0.out] at R1 hc1
  rw [HL0.out]
  have HR1 := Lib.hid R1
  clear O1 R1
  go_wp2_with fail
  refine (wire_New A1 n0 c1 u1).mono ?_
  rintro y u2 ⟨rfl, rfl⟩
  have R : Rd (u1.alloc (.cells #[.slice A1 n0 c1, .int .i64 0, .int .i64 0] 103)) u1.heap.size A1 n0 c1 l 0 0 := ⟨Blk.new _ _ _, HR1.out.alloc (Nat.le_refl _) _, Nat.zero_le _, by omega, hc1⟩
  have hgw := hB.size
  replace hB := hB.alloc hB.size (.cells #[.slice A1 n0 c1, .int .i64 0, .int .i64 0] 103)
  generalize u1.alloc (.cells #[.slice A1 n0 c1, .int .i64 0, .int .i64 0] 103) = W1 at *
  generalize u1.heap.size = g at *
  obtain ⟨m, k, yy, e9⟩ : ∃ a k' y', pGet l 0 0 = (a, k', y') := ⟨_, _, _, rfl⟩
  have hsm := pGet_small l 0 0 (Nat.zero_le _)
  have C1 := Lib.hid (mut_Get W1 (HT.out.in_ (Nat.le_refl _) hB) g A1 n0 c1 l 0 0 R)
  rw [e9] at C1 hsm
  have HE := Lib.hid e9
  simp only [] at hsm
  clear R e9
  go_wp2_with fail
  refine C1.out.mono ?_
  clear C1
  rintro y u3 ⟨v9, rfl, O9, R, G⟩
  replace hB := Below.grown hB G hB.size (fun q hq => by injection hq with hq; omega)
  obtain ⟨A9, c9, rfl, -, -, -⟩ := own_form O9
  have R9 := Reads.of_own O9.own
  clear O9 G HR1
  have BX := Blk.new u3 35 (mutC m (.slice A9 m.ov.length c9))
  replace R := R.alloc (.cells (mutC m (.slice A9 m.ov.length c9)) 35)
  replace R9 := (R9.alloc (Nat.le_refl _) (.cells (mutC m (.slice A9 m.ov.length c9)) 35)).more (B' := (u3.alloc (.cells (mutC m (.slice A9 m.ov.length c9)) 35)).heap.size) (by simp)
  replace hB := hB.alloc hB.size (.cells (mutC m (.slice A9 m.ov.length c9)) 35)
  unfold mutC
  go_wp2_with fail
  change Calls _ _ _ (u3.alloc (.cells (mutC m (.slice A9 m.ov.length c9)) 35)) _
  generalize u3.alloc (.cells (mutC m (.slice A9 m.ov.length c9)) 35) = W2 at *
  generalize u3.heap.size = gx at *
  refine (reader_Why W2 g A1 n0 c1 l k yy R).mono ?_
  rintro x w9 ⟨rfl, rfl⟩
  by_cases hy : yy = 0
  case neg =>
    have hyn : (yy != 0) = true := by simp [hy]
    have hmz : m = mutZ := by
      have h1 : (pGet l 0 0).2.2 ≠ 0 := by rw [HE.out]; exact hy
      have h2 := congrArg Prod.fst HE.out
      obtain ⟨key, k1, y1, e1⟩ : ∃ a k' y', pTxt 24 l 0 0 = (a, k', y') := ⟨_, _, _, rfl⟩
      have h3 : pGet l 0 0 = pWith (tx key) l k1 y1 := by unfold pGet; rw [pThen_eq e1]
      rw [h3] at h1 h2
      have h4 : ¬ mwWhy (pBody (tx key) l k1 y1).1 (pBody (tx key) l k1 y1).2.2 = 0 := h1
      have h5 : (if mwWhy (pBody (tx key) l k1 y1).1 (pBody (tx key) l k1 y1).2.2 = 0 then (pBody (tx key) l k1 y1).1 else mutZ) = m := h2
      rw [if_neg h4] at h5
      exact h5.symm
    subst hmz
    have CC := Lib.hid (ref07_Compare mutZ mutZ A9 none 0 c9 0 0 W2 R9 (reads_none _ _ _) (by decide))
    rw [cmpM_self] at CC
    have d0 : W2.cell? ⟨gx, 0, none⟩ = some (.int .i64 mutZ.tab) := BX.cell 0
    have d1 : W2.cell? ⟨gx, 1, none⟩ = some (.int .i64 mutZ.kind) := BX.cell 1
    have d2 : W2.cell? ⟨gx, 2, none⟩ = some (.string mutZ.key) := BX.cell 2
    have d3 : W2.cell? ⟨gx, 3, none⟩ = some (.string mutZ.en) := BX.cell 3
    have d4 : W2.cell? ⟨gx, 4, none⟩ = some (.string mutZ.val) := BX.cell 4
    have d5 : W2.cell? ⟨gx, 5, none⟩ = some (.int .i64 mutZ.exp) := BX.cell 5
    have d6 : W2.cell? ⟨gx, 6, none⟩ = some (.int .i64 mutZ.at_.1) := BX.cell 6
    have d7 : W2.cell? ⟨gx, 7, none⟩ = some (.int .i64 mutZ.at_.2.1) := BX.cell 7
    have d8 : W2.cell? ⟨gx, 8, none⟩ = some (.int .i64 mutZ.at_.2.2) := BX.cell 8
    have d9 : W2.cell? ⟨gx, 9, none⟩ = some (.slice A9 0 c9) := BX.cell 9
    clear hy
    go_wp2_with fail
    refine CC.out.mono ?_
    clear CC d0 d1 d2 d3 d4 d5 d6 d7 d8 d9
    rintro x u4 ⟨rfl, b4⟩
    replace hB := hB.trans (b4.mono hB.size)
    clear b4
    go_wp2_with fail
    refine (alive07 u4 (HT.out.in_ (Nat.le_refl _) hB)).mono ?_
    rintro x u5 ⟨rfl, b5⟩
    replace hB := hB.trans (b5.mono hB.size)
    go_wp2_with fail
    go_ret
    exact ⟨rfl, hB⟩
  subst hy
  have hyn : ((0 : Int) != 0) = false := rfl
  obtain ⟨-, htk, hmr⟩ := sound_get.use HE.out (Nat.zero_le _) rfl
  have hkn := R.kn
  have HTK := Lib.hid (show l.take k = mput m by simpa using htk)
  have HMI := Lib.hid (mutI_of hmr)
  have hmk := key_size hmr.2.1
  have hme := (mutN_of hmr).en
  have hmv := (mutN_of hmr).val
  have HMR := Lib.hid hmr
  clear htk hmr
  go_upto_region 9 with fail
  have q0 : ∀ p : Kept (· < W2.heap.size) W2.drew, p.v.cell? ⟨gx, 0, none⟩ = some (.int .i64 m.tab) := fun p => p.h.cell BX.lt (BX.drew.cell 0)
  have q1 : ∀ p : Kept (· < W2.heap.size) W2.drew, p.v.cell? ⟨gx, 1, none⟩ = some (.int .i64 m.kind) := fun p => p.h.cell BX.lt (BX.drew.cell 1)
  have q2 : ∀ p : Kept (· < W2.heap.size) W2.drew, p.v.cell? ⟨gx, 2, none⟩ = some (.string m.key) := fun p => p.h.cell BX.lt (BX.drew.cell 2)
  have q3 : ∀ p : Kept (· < W2.heap.size) W2.drew, p.v.cell? ⟨gx, 3, none⟩ = some (.string m.en) := fun p => p.h.cell BX.lt (BX.drew.cell 3)
  have q4 : ∀ p : Kept (· < W2.heap.size) W2.drew, p.v.cell? ⟨gx, 4, none⟩ = some (.string m.val) := fun p => p.h.cell BX.lt (BX.drew.cell 4)
  have q5 : ∀ p : Kept (· < W2.heap.size) W2.drew, p.v.cell? ⟨gx, 5, none⟩ = some (.int .i64 m.exp) := fun p => p.h.cell BX.lt (BX.drew.cell 5)
  have q6 : ∀ p : Kept (· < W2.heap.size) W2.drew, p.v.cell? ⟨gx, 6, none⟩ = some (.int .i64 m.at_.1) := fun p => p.h.cell BX.lt (BX.drew.cell 6)
  have q7 : ∀ p : Kept (· < W2.heap.size) W2.drew, p.v.cell? ⟨gx, 7, none⟩ = some (.int .i64 m.at_.2.1) := fun p => p.h.cell BX.lt (BX.drew.cell 7)
  have q8 : ∀ p : Kept (· < W2.heap.size) W2.drew, p.v.cell? ⟨gx, 8, none⟩ = some (.int .i64 m.at_.2.2) := fun p => p.h.cell BX.lt (BX.drew.cell 8)
  have q9 : ∀ p : Kept (· < W2.heap.size) W2.drew, p.v.cell? ⟨gx, 9, none⟩ = some (.slice A9 m.ov.length c9) := fun p => p.h.cell BX.lt (BX.drew.cell 9)
  have hkc : (k : Int) ≤ (c0 : Int) := by omega
  have hk0 : (0 : Int) ≤ (k : Int) := by omega
  have R9' := R9.drewN 1
  have Rd' := R.drewN 1
  replace hB := below_drewN hB 1
  change Below w.heap.size w W2.drew at hB
  change Reads W2.drew W2.drew.heap.size 3 A9 m.ov.length (m.ov.flatMap sc) at R9'
  change Rd W2.drew g A1 n0 c1 l k 0 at Rd'
  have CR := Lib.hid (ref07_Right m A9 m.ov.length c9 W2.drew (HT.out.in_ (Nat.le_refl _) hB) R9' (by omega) (by omega) (by omega) (by unfold maxLen; omega))
  rw [mrtB_yes HMR.out] at CR
  have HGX := Lib.hid BX.lt
  clear R R9
  refine wp_region_mixDk (M := []) (· < W2.heap.size) [0, 1, 2, 3, 4, 7, 5, 6, 8, 9, 10, 11, 12, 13, 14] (by kernel_rfl) (by kernel_rfl) ?_
  iterate 1 (refine mix_calmDk rfl rfl ?_; go_big_quiet_step (fail); refine wpQuiet_nil ?_)
  refine mix_loudDk rfl (by kernel_rfl) rfl ?_
  intro K1 hK1
  have HK := Lib.hid hK1
  clear hK1 q0 q1 q2 q3 q4 q5 q6 q7 q8 q9
  go_wp2_with fail
  refine (CR.out).mono ?_
  rintro x u4 ⟨rfl, b4⟩
  have HS9 := Lib.hid (Stand.of_below (S := (· < W2.heap.size)) b4)
  replace R9' := (R9'.below b4).more b4.size
  replace Rd' := Rd'.below b4
  have hs4 : W2.heap.size ≤ u4.heap.size := b4.size
  replace hB := hB.trans (b4.mono hB.size)
  have BX4 := BX.drew.below b4 BX.drew.lt
  clear b4 CR BX
  go_wp2_with fail
  refine HK.out _ _ (HS9.out) ?_
  clear HK
  clear HS9
  have q0 : ∀ p : Kept (· < W2.heap.size) u4, p.v.cell? ⟨gx, 0, none⟩ = some (.int .i64 m.tab) := fun p => p.h.cell HGX.out (BX4.cell 0)
  have q1 : ∀ p : Kept (· < W2.heap.size) u4, p.v.cell? ⟨gx, 1, none⟩ = some (.int .i64 m.kind) := fun p => p.h.cell HGX.out (BX4.cell 1)
  have q2 : ∀ p : Kept (· < W2.heap.size) u4, p.v.cell? ⟨gx, 2, none⟩ = some (.string m.key) := fun p => p.h.cell HGX.out (BX4.cell 2)
  have q3 : ∀ p : Kept (· < W2.heap.size) u4, p.v.cell? ⟨gx, 3, none⟩ = some (.string m.en) := fun p => p.h.cell HGX.out (BX4.cell 3)
  have q4 : ∀ p : Kept (· < W2.heap.size) u4, p.v.cell? ⟨gx, 4, none⟩ = some (.string m.val) := fun p => p.h.cell HGX.out (BX4.cell 4)
  have q5 : ∀ p : Kept (· < W2.heap.size) u4, p.v.cell? ⟨gx, 5, none⟩ = some (.int .i64 m.exp) := fun p => p.h.cell HGX.out (BX4.cell 5)
  have q6 : ∀ p : Kept (· < W2.heap.size) u4, p.v.cell? ⟨gx, 6, none⟩ = some (.int .i64 m.at_.1) := fun p => p.h.cell HGX.out (BX4.cell 6)
  have q7 : ∀ p : Kept (· < W2.heap.size) u4, p.v.cell? ⟨gx, 7, none⟩ = some (.int .i64 m.at_.2.1) := fun p => p.h.cell HGX.out (BX4.cell 7)
  have q8 : ∀ p : Kept (· < W2.heap.size) u4, p.v.cell? ⟨gx, 8, none⟩ = some (.int .i64 m.at_.2.2) := fun p => p.h.cell HGX.out (BX4.cell 8)
  have q9 : ∀ p : Kept (· < W2.heap.size) u4, p.v.cell? ⟨gx, 9, none⟩ = some (.slice A9 m.ov.length c9) := fun p => p.h.cell HGX.out (BX4.cell 9)
  iterate 4 (refine mix_calmDk rfl rfl ?_; go_big_quiet_step (fail); refine wpQuiet_nil ?_)
  refine mix_loudDk rfl (by kernel_rfl) rfl ?_
  intro K1 hK1
  have HK := Lib.hid hK1
  clear hK1 q0 q1 q2 q3 q4 q5 q6 q7 q8 q9
  go_wp2_with fail
  refine (reader_At u4 g A1 n0 c1 l k 0 Rd').mono ?_
  rintro x u5 ⟨rfl, rfl⟩
  go_wp2_with fail
  refine HK.out _ _ (Stand.refl _ _) ?_
  clear HK
  iterate 1 (refine mix_calmDk rfl rfl ?_; go_big_quiet_step (fail); refine wpQuiet_nil ?_)
  refine mix_loudDk rfl (by kernel_rfl) rfl ?_
  intro K1 hK1
  have HK := Lib.hid hK1
  clear hK1 
  go_wp2_with fail
  refine (ref07_Put m A9 m.ov.length c9 u4 R9' HMI.out).mono ?_
  rintro x u6 ⟨v6, rfl, O6, b6⟩
  have HS9 := Lib.hid (Stand.of_below (S := (· < W2.heap.size)) b6)
  replace hB := hB.trans (b6.mono hB.size)
  have HO6 := Lib.hid O6
  clear b6 O6
  go_wp2_with fail
  refine HK.out _ _ (HS9.out) ?_
  clear HK
  clear HS9
  obtain ⟨A6, c6, rfl, _, R6⟩ := HO6.out.reads
  have hE := bytes_Equal A0 A6 k (mput m).length c0 c6 (l.take k) (mput m) u6 ((reads_take (HR0.out.below hB) k (by omega)).more hB.size) R6 (by omega)
  rw [HTK.out, decide_eq_true rfl] at hE
  have CE := Lib.hid hE
  clear hE R6 HO6
  refine mix_loudDk rfl (by kernel_rfl) rfl ?_
  intro K1 hK1
  have HK := Lib.hid hK1
  clear hK1 
  go_wp2_with fail
  refine (CE.out).mono ?_
  rintro x u7 ⟨rfl, b7⟩
  have HS9 := Lib.hid (Stand.of_below (S := (· < W2.heap.size)) b7)
  replace hB := hB.trans (b7.mono hB.size)
  clear b7 CE
  go_wp2_with fail
  refine HK.out _ _ (HS9.out) ?_
  clear HK
  clear HS9
  iterate 2 (refine mix_calmDk rfl rfl ?_; go_big_quiet_step (fail); refine wpQuiet_nil ?_)
  refine mix_loudDk rfl (by kernel_rfl) rfl ?_
  intro K1 hK1
  have HK := Lib.hid hK1
  clear hK1 
  go_wp2_with fail
  refine (alive07 u7 (HT.out.in_ (Nat.le_refl _) hB)).mono ?_
  rintro x u8 ⟨rfl, b8⟩
  have HS9 := Lib.hid (Stand.of_below (S := (· < W2.heap.size)) b8)
  replace hB := hB.trans (b8.mono hB.size)
  clear b8
  go_wp2_with fail
  refine HK.out _ _ (HS9.out) ?_
  clear HK
  clear HS9
  iterate 2 (refine mix_calmDk rfl rfl ?_; go_big_quiet_step (fail); refine wpQuiet_nil ?_)
  refine mix_endDk ?_
  go_wp2_with fail
  go_ret
  exact ⟨rfl, hB⟩
end Go.Proofs.YthbhbechemnidaaDoor
