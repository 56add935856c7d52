/- Walk of RingStays. -/
import Derived.Test.YtncdchhpdbmfcaaDoorRngI
import Derived.Test.YtncdchhpdbmfcaaDoorRngQ
namespace Go.Proofs.YtncdchhpdbmfcaaDoor
open Go.RowKit Go.Sort

theorem right_more {N : Nat} {copies : Int} {K : List ByteArray} (h : RightR (N : Int) copies K) (h5 : N < 5) : RightR ((N : Int) + 1) copies K := ⟨by omega, by omega, h.2.2.1, by have := h.2.2.2.1; omega, h.2.2.2.2⟩
set_option maxRecDepth 100000 in
set_option maxHeartbeats 1500000 in
theorem ring_stays_walk (w : World) (hT : Tabs w) (nodes copies : Int) (h1 : (Lit.int .i64 nodes).wf = true) (h2 : (Lit.int .i64 copies).wf = true) (A : Option Addr) (n c : Nat) (K : List ByteArray) (hn : n ≤ maxLen) (hr : Reads w w.heap.size 1 A n (K.map Value.string)) (hz : ∀ s ∈ K, s.size ≤ maxLen) (i : Int) (h3 : (Lit.int .i64 i).wf = true) :
    Calls Tryd.prog 3 #[argS nodes copies A n c, .int .i64 i] w fun e w' => e = .returned (.bool true) ∧ Below w.heap.size w w' := by
  have h1 : -9223372036854775808 ≤ nodes ∧ nodes ≤ 9223372036854775807 := by simpa [Lit.wf] using bounds_i64 h1
  have h2 : -9223372036854775808 ≤ copies ∧ copies ≤ 9223372036854775807 := by simpa [Lit.wf] using bounds_i64 h2
  have h3 : -9223372036854775808 ≤ i ∧ i ≤ 9223372036854775807 := by simpa [Lit.wf] using bounds_i64 h3
  unfold argS
  have hN : K.length = n := by have := hr.1; simpa using this
  have hzm : ∀ s ∈ K, s.size ≤ maxLen := hz
  obtain ⟨w2, hw2⟩ : ∃ w2, w.alloc (.cells #[.int .i64 nodes, .int .i64 copies, .slice A n c] 24) = w2 := ⟨_, rfl⟩
  have b2 : Below w.heap.size w w2 := by rw [← hw2]; exact (Below.refl _ _).alloc (Nat.le_refl _) _
  have BS : Blk w2 w.heap.size 24 #[.int .i64 nodes, .int .i64 copies, .slice A n c] := by rw [← hw2]; exact Blk.new _ _ _
  have hr2 := (hr.below b2).more b2.size
  have HG := Lib.hid (law20_great A n c K w2 hr2 (by unfold maxLen at hn; omega) hzm)
  have HNW := Lib.hid (fun (m : Int) (hm1 : -9223372036854775808 ≤ m) (hm2 : m ≤ 9223372036854775807) w1 (b : Below w.heap.size w w1) => ring_New m copies A n c K w1 (hT.below b) ((hr.below b).more b.size) (by unfold maxLen at hn; omega) hzm hm1 hm2 h2.1 h2.2)
  have HW2 := Lib.hid hw2
  have HR := Lib.hid hr
  have HN := Lib.hid hN
  clear hw2 hr2 hr hN
  obtain ⟨g, hg⟩ : ∃ g, w.heap.size = g := ⟨_, rfl⟩
  have HGG := Lib.hid hg
  have HB2 := Lib.hid b2
  clear b2
  rw [hg] at BS
  have s0 := BS.cell 0
  have s1 := BS.cell 1
  have s2 := BS.cell 2
  go_enter Tryd.func3, Tryd.ntmps3
  go_upto_region 1 with fail
  rw [HW2.out]
  go_wp2_with fail
  refine HG.out.mono ?_
  rintro e w3 ⟨q, rfl, hq, rfl⟩
  cases q with
  | true =>
    go_wp2_with fail
    go_ret
    exact ⟨rfl, HGG.out ▸ HB2.out⟩
  | false =>
    obtain ⟨hn10, hz200⟩ := hq rfl
    have HZ := Lib.hid hz200
    clear hq hz200
    have HRT := Lib.hid (ref20_Right nodes copies A n c K w2 (hT.below HB2.out) ((HR.out.below HB2.out).more HB2.out.size) (by omega) (fun s hs => by have := HZ.out s hs; omega) h1.1 h1.2 h2.1 h2.2)
    have HAL := Lib.hid (fun w1 (b : Below w.heap.size w w1) => law20_alive w1 (hT.below b))
    go_wp2_with fail
    refine HRT.out.mono ?_
    rintro e w4 ⟨q, rfl, hq, b4⟩
    have hb4 := HB2.out.trans (b4.mono HB2.out.size)
    have HQ := Lib.hid hq
    clear hq
    replace BS := BS.below b4 BS.lt
    replace s0 := BS.cell 0
    replace s1 := BS.cell 1
    replace s2 := BS.cell 2
    cases q with
    | false =>
      go_wp2_with fail
      go_ret
      exact ⟨rfl, HGG.out ▸ hb4⟩
    | true =>
      by_cases hn5 : nodes ≥ 5
      · go_wp2_with fail
        go_ret
        exact ⟨rfl, HGG.out ▸ hb4⟩
      · by_cases hi0 : i < 0
        · go_wp2_with fail
          go_ret
          exact ⟨rfl, HGG.out ▸ hb4⟩
        · by_cases hin : i > n
          · go_wp2_with fail
            go_ret
            exact ⟨rfl, HGG.out ▸ hb4⟩
          · have hRI : RightR nodes copies K := HQ.out.1 rfl
            obtain ⟨N, rfl⟩ : ∃ N : Nat, nodes = N := ⟨nodes.toNat, by have := hRI.1; omega⟩
            obtain ⟨C, rfl⟩ : ∃ C : Nat, copies = C := ⟨copies.toNat, by have := hRI.2.2.1; omega⟩
            have hN4 : N < 5 := by omega
            have hCN : (C : Int) ≤ N := hRI.2.2.2.1
            have hRM := right_more hRI hN4
            have hn3 : n ≤ 3 := by have := hRI.2.2.2.2.1; have := HN.out; omega
            have HRI := Lib.hid hRI
            have HRM := Lib.hid hRM
            clear hRI hRM HQ
            go_wp2_with fail
            refine (HNW.out (N : Int) h1.1 h1.2 w4 hb4).mono ?_
            rintro e w5 (⟨_, N5, g5, hN5, rfl, hR5, b5⟩ | ⟨h, _⟩)
            · obtain rfl : N5 = N := by omega
              have hb5 := hb4.trans (b5.mono hb4.size)
              replace BS := BS.below b5 BS.lt
              replace s0 := BS.cell 0
              replace s1 := BS.cell 1
              replace s2 := BS.cell 2
              have HR5 := Lib.hid hR5
              clear hR5 b5 hb4 b4 hN5
              go_wp2_with fail
              refine (HNW.out ((N5 : Int) + 1) (by omega) (by omega) w5 hb5).mono ?_
              rintro e w6 (⟨_, N6, g6, hN6, rfl, hR6, b6⟩ | ⟨h, _⟩)
              · obtain rfl : N6 = N5 + 1 := by omega
                have hb6 := hb5.trans (b6.mono hb5.size)
                replace BS := BS.below b6 BS.lt
                replace s0 := BS.cell 0
                replace s1 := BS.cell 1
                replace s2 := BS.cell 2
                replace HR5 := Lib.hid (HR5.out.below b6)
                have HR6 := Lib.hid hR6
                have HST := Lib.hid (repls_stay (⟨#[]⟩ :: K) N5 (C : Int) i (by omega) hCN (by omega) (by rw [List.length_cons]; have := HN.out; omega))
                have hSl : ((⟨#[]⟩ : ByteArray) :: K).length ≤ 100 := by rw [List.length_cons]; have := HN.out; omega
                have hP5 : (sortU (plcs (N5 * 4))).length ≤ 100 := by rw [(sortU_perm _).length_eq, plcs_len]; omega
                have hP6 : (sortU (plcs ((N5 + 1) * 4))).length ≤ 100 := by rw [(sortU_perm _).length_eq, plcs_len]; omega
                have HA1 := Lib.hid (ring_Replicas g5 (⟨#[]⟩ :: K) (N5 : Int) (C : Int) _ i w6 HR5.out (sortU_upU _) hSl hP5 h3.1 h3.2)
                have HA2 := Lib.hid (fun w1 (b : Below w6.heap.size w6 w1) => ring_Replicas g6 (⟨#[]⟩ :: K) ((N5 : Int) + 1) (C : Int) _ i w1 (HR6.out.below b) (sortU_upU _) hSl hP6 h3.1 h3.2)
                obtain ⟨X, hX⟩ : ∃ X, repls (⟨#[]⟩ :: K) (sortU (plcs (N5 * 4))) (C : Int) i = X := ⟨_, rfl⟩
                obtain ⟨Y, hY⟩ : ∃ Y, repls (⟨#[]⟩ :: K) (sortU (plcs ((N5 + 1) * 4))) (C : Int) i = Y := ⟨_, rfl⟩
                rw [hX] at HA1
                rw [hY] at HA2
                rw [hX, hY] at HST
                obtain ⟨sx, sy, sm, sg1, sg2⟩ := HST.out
                have hxl : X.length = C := by omega
                have hyl : Y.length = C := by omega
                have HSM := Lib.hid sm
                have HSG1 := Lib.hid sg1
                have HSG2 := Lib.hid sg2
                have HXL := Lib.hid hxl
                have HYL := Lib.hid hyl
                clear hR6 b6 hb5 hN6 hX hY HST sx sy sm sg1 sg2 hSl hP5 hP6 HR5 HR6
                go_wp2_with fail
                refine HA1.out.mono ?_
                rintro e w7 ⟨vx, rfl, ox, b7⟩
                obtain ⟨Ax, cx, hvx, -, -, hrx⟩ := ox.reads
                rw [HXL.out] at hvx hrx
                subst hvx
                have HX7 := Lib.hid hrx
                clear hrx ox
                go_wp2_with fail
                refine (HA2.out w7 b7).mono ?_
                rintro e w8 ⟨vy, rfl, oy, b8⟩
                obtain ⟨Ay, cy, hvy, -, -, hry⟩ := oy.reads
                rw [HYL.out] at hvy hry
                subst hvy
                have HY8 := Lib.hid hry
                have HX8 := Lib.hid ((HX7.out.below b8).more b8.size)
                have hb8 := hb6.trans ((b7.trans (b8.mono b7.size)).mono hb6.size)
                replace BS := BS.below (b7.trans (b8.mono b7.size)) BS.lt
                clear hry oy HX7 s0 s1 s2 b7 b8 hb6 hxl hyl HA1 HA2
                go_wp2_with fail
                have bS := BS
                go_loopw [11, 12] (fun v11 v12 wr => ∃ k m : Nat, v12 = .int .i64 k ∧ v11 = .int .i64 m ∧ k ≤ C ∧ m = (goneL (X.take k) Y).length ∧ m ≤ k ∧ Below w8.heap.size w8 wr) (fun _ v12 _ => C - (intOf v12).toNat)
                case atStart => exact ⟨0, 0, rfl, rfl, Nat.zero_le _, rfl, Nat.le_refl _, Below.refl _ _⟩
                case round =>
                  obtain ⟨k, m, rfl, rfl, hk, hm, hmk, hB⟩ := hrel
                  have HM := Lib.hid hm
                  clear hm
                  by_cases hkC : k < C
                  · have hkX : k < X.length := by have := HXL.out; omega
                    obtain ⟨b, off, rfl, hbb, hall⟩ := Reads.form HX8.out (by omega)
                    obtain ⟨z, hzz⟩ : ∃ z, X[k]'hkX = z := ⟨_, rfl⟩
                    have e0 := hb_cell hB (hall k (vi z) (by rw [List.getElem?_map, List.getElem?_eq_getElem hkX, hzz]; rfl))
                    have HC := Lib.hid (ints_Contains Ay C cy Y wr z ((HY8.out.below hB).more hB.size) (by omega))
                    have HZZ : Hid (goneL (X.take (k + 1)) Y = goneL (X.take k) Y ++ goneL [z] Y) := Lib.hid (by
                      unfold goneL
                      rw [List.take_succ_eq_append_getElem hkX, hzz, List.filter_append])
                    obtain ⟨q, hq⟩ : ∃ q, (Y.any fun y => z == y) = q := ⟨_, rfl⟩
                    rw [hq] at HC
                    have HQ2 : Hid ((goneL [z] Y).length = if q = true then 0 else 1) := Lib.hid (by
                      unfold goneL
                      rw [List.filter_cons, hq]
                      cases q <;> rfl)
                    clear hall hzz hq
                    unfold vi at e0
                    go_wp2_with fail
                    refine HC.out.mono ?_
                    rintro e w9 ⟨rfl, b9⟩
                    cases q with
                    | true =>
                      go_wp2_with fail
                      go_roundw
                      case rel => exact ⟨k + 1, m, by go_num, rfl, by omega, by rw [HZZ.out, List.length_append, HQ2.out, ← HM.out]; rfl, by omega, hB.trans (b9.mono hB.size)⟩
                      case measure => simp [intOf]; omega
                    | false =>
                      go_wp2_with fail
                      go_roundw
                      case rel => exact ⟨k + 1, m + 1, by go_num, by go_num, by omega, by rw [HZZ.out, List.length_append, HQ2.out, ← HM.out]; rfl, by omega, hB.trans (b9.mono hB.size)⟩
                      case measure => simp [intOf]; omega
                  · have hmG : m = (goneL X Y).length := by
                      have h := HM.out
                      rwa [List.take_of_length_le (by have := HXL.out; omega)] at h
                    have hm1 : m ≤ 1 := by rw [hmG]; exact HSG1.out
                    have HMZ : Hid (m = 0 ∨ (Y.any fun q => (N5 : Int) == q) = true) := Lib.hid (by rw [hmG]; exact HSG2.out)
                    clear hmG HM
                    obtain ⟨wo, hwo⟩ : ∃ wo, wr = wo := ⟨_, rfl⟩
                    subst hwo
                    rename_i wo
                    go_wp2_with fail
                    go_loopw [13] (fun v13 wr => ∃ k : Nat, v13 = .int .i64 k ∧ k ≤ C ∧ Below w8.heap.size w8 wr) (fun v13 _ => C - (intOf v13).toNat)
                    case atStart => exact ⟨0, rfl, Nat.zero_le _, hB⟩
                    case round =>
                      clear hB hk hkC hmk
                      obtain ⟨k2, rfl, hk, hB⟩ := hrel
                      have BSr := BS.below hB BS.lt
                      by_cases hkC : k2 < C
                      · have hkY : k2 < Y.length := by have := HYL.out; omega
                        obtain ⟨b, off, rfl, hbb, hall⟩ := Reads.form HY8.out (by omega)
                        obtain ⟨z, hzz⟩ : ∃ z, Y[k2]'hkY = z := ⟨_, rfl⟩
                        have e0 := cell_regrown (hb_cell hB (hall k2 (vi z) (by rw [List.getElem?_map, List.getElem?_eq_getElem hkY, hzz]; rfl)))
                        have k0 := cell_regrown (BSr.cell 0)
                        have hsm := HSM.out z (by rw [← hzz]; exact List.getElem_mem hkY)
                        have cC : ∀ d os, Calls Tryd.prog 10 #[.slice Ax C cx, .int .i64 z] (grow (redrawn wr d) os) _ := fun d os => Calls.regrown_of (ints_Contains Ax C cx X _ z ((HX8.out.below (hB.trans ((below_regrown wr d os).mono hB.size))).more (Nat.le_trans hB.size (below_regrown wr d os).size)) (by omega))
                        obtain ⟨q, hq⟩ : ∃ q, (X.any fun y => z == y) = q := ⟨_, rfl⟩
                        simp only [hq] at cC
                        rw [hq] at hsm
                        unfold vi at e0
                        clear hall hzz hq BSr
                        cases q with
                        | true =>
                          go_upto_region 17 with fail
                          refine wp_region_quiet_below (by kernel_rfl) (by kernel_rfl) ?_
                          repeat (go_big_quiet_step (exact cC _ _))
                          refine wpQuiet_nil ?_
                          rintro w9 ⟨⟨dq, osq⟩, rfl⟩
                          have bw := below_regrown wr dq osq
                          clear cC e0 k0
                          go_wp2_with fail
                          go_roundw
                          case rel => exact ⟨k2 + 1, by go_num, by omega, hB.trans (bw.mono hB.size)⟩
                          case measure => simp [intOf]; omega
                        | false =>
                          have hzN : z = (N5 : Int) := by
                            rcases hsm with h | h
                            · cases h
                            · exact h
                          subst hzN
                          go_upto_region 17 with fail
                          refine wp_region_quiet_below (by kernel_rfl) (by kernel_rfl) ?_
                          repeat (go_big_quiet_step (exact cC _ _))
                          refine wpQuiet_nil ?_
                          rintro w9 ⟨⟨dq, osq⟩, rfl⟩
                          have bw := below_regrown wr dq osq
                          clear cC e0 k0
                          go_wp2_with fail
                          go_roundw
                          case rel => exact ⟨k2 + 1, by go_num, by omega, hB.trans (bw.mono hB.size)⟩
                          case measure => simp [intOf]; omega
                      · have s0 := BSr.cell 0
                        have s1 := BSr.cell 1
                        have hbw := hb8.trans (hB.mono hb8.size)
                        rcases Nat.eq_zero_or_pos m with rfl | hm0
                        · go_wp2_with fail
                          refine (HAL.out _ hbw).mono ?_
                          rintro e w10 ⟨rfl, b10⟩
                          go_wp2_with fail
                          go_ret
                          exact ⟨rfl, HGG.out ▸ hbw.trans (b10.mono hbw.size)⟩
                        · obtain rfl : m = 1 := by omega
                          have hany : (Y.any fun q => (N5 : Int) == q) = true := by
                            rcases HMZ.out with h | h
                            · omega
                            · exact h
                          have HC := Lib.hid (ints_Contains Ay C cy Y wr (N5 : Int) ((HY8.out.below hB).more hB.size) (by omega))
                          rw [hany] at HC
                          clear hany
                          go_wp2_with fail
                          refine HC.out.mono ?_
                          rintro e w9 ⟨rfl, b9⟩
                          have hb9 := hbw.trans (b9.mono hbw.size)
                          go_wp2_with fail
                          refine (HAL.out _ hb9).mono ?_
                          rintro e w10 ⟨rfl, b10⟩
                          go_wp2_with fail
                          go_ret
                          exact ⟨rfl, HGG.out ▸ hb9.trans (b10.mono hb9.size)⟩
              · exact absurd HRM.out h
            · exact absurd HRI.out h
end Go.Proofs.YtncdchhpdbmfcaaDoor
