/- The law's mine and is; the reference's bounds. -/
import Derived.Test.YtomefcngaclehaaSpnR
namespace Go.Proofs.Ytomefcngaclehaa
open Go.RowKit Go.Sort

set_option maxRecDepth 100000 in
set_option maxHeartbeats 2000000 in
theorem law46_mine (A : Option Addr) (n c : Nat) (l : List Sp) (w : World) (hr : RdP w A l) (hnl : l.length = n) (hn : n ≤ 1000000) :
    Calls Try.prog 23 #[.slice A n c] w fun e w' => ∃ v, e = .returned v ∧ OwnP 45 w' w.heap.size v l ∧ Below w.heap.size w w' := by
  have HR := Lib.hid hr
  have HN := Lib.hid hnl
  have O0 : OwnP 45 w w.heap.size (.slice none 0 0) [] := OwnP.nil_ _ _ _
  clear hr hnl
  go_enter Try.func23, Try.ntmps23
  go_wp2_with fail
  go_loopw [3, 4] (fun v3 v4 wr => ∃ i : Nat, v4 = .int .i64 i ∧ i ≤ n ∧ OwnP 45 wr w.heap.size v3 (l.take i) ∧ Below w.heap.size w wr) (fun _ v4 _ => n - (intOf v4).toNat)
  case atStart => exact ⟨0, rfl, Nat.zero_le _, O0, Below.refl _ _⟩
  case round =>
    clear O0
    obtain ⟨i, rfl, hi, hO, hB⟩ := hrel
    have HO := Lib.hid hO
    have hsB := hB.size
    by_cases hin : i < n
    · have hil : i < l.length := by have := HN.out; omega
      have htl : (l.take i).length ≤ 1000000000 := by rw [List.length_take]; omega
      obtain ⟨b, off, rfl, hbw, hc1⟩ := HR.out.at_ (by omega)
      have hb : b < wr.heap.size := Nat.lt_of_lt_of_le hbw hsB
      have hnb : some b ≠ u3.ownBlock := fun h => by have := (hO.lt _ h.symm).1; omega
      obtain ⟨p1, p2⟩ := hc1 i hil
      replace p1 := hb_cell hB p1
      replace p2 := hb_cell hB p2
      have hsn := List.take_succ_eq_append_getElem hil
      obtain ⟨⟨x1, x2⟩, hx⟩ : ∃ x, l[i]'hil = x := ⟨_, rfl⟩
      rw [hx] at p1 p2 hsn
      simp only at p1 p2
      have HSN := Lib.hid hsn
      clear hc1 hx hsn hO
      go_upto_region 5 with fail
      have q0 : ∀ p : Kept (fun k => k < wr.heap.size ∧ some k ≠ u3.ownBlock) wr.drew, p.v.cell? ⟨b, off + i * 2, none⟩ = some (.string x1) := fun p => p.h.cell ⟨hb, hnb⟩ p1
      have q1 : ∀ p : Kept (fun k => k < wr.heap.size ∧ some k ≠ u3.ownBlock) wr.drew, p.v.cell? ⟨b, off + i * 2 + 1, none⟩ = some (.string x2) := fun p => p.h.cell ⟨hb, hnb⟩ p2
      have hOd : OwnP 45 wr.drew w.heap.size u3 (l.take i) := HO.out.below ((Below.refl _ _).drew)
      have HOD := Lib.hid hOd
      have hBd : Below w.heap.size w wr.drew := below_drewN hB 1
      clear hOd p1 p2
      refine wp_region_mixDk (M := []) (fun k => k < wr.heap.size ∧ some k ≠ u3.ownBlock) [0, 1, 2, 3, 4, 5, 6, 7, 8, 9, 10, 11, 12, 13, 14] (by kernel_rfl) (by kernel_rfl) ?_
      iterate 12 (refine mix_calmDk rfl rfl ?_; go_big_quiet_step (fail); refine wpQuiet_nil ?_)
      refine mix_loudDk rfl (by kernel_rfl) rfl ?_
      intro K1 hK1
      have HK := Lib.hid hK1
      clear hK1 
      go_wp2_with fail
      refine HK.out _ _ ((Stand.refl _ _).alloc _) ?_
      clear HK
      refine mix_loudDk rfl (by kernel_rfl) rfl ?_
      intro K1 hK1
      have HK := Lib.hid hK1
      clear hK1 
      go_wp2_with (at_builtin; go_must (refine append_s46a wr.drew (x1, x2) _ rfl _ rfl _ _ rfl w.heap.size _ (l.take i) rfl HOD.out rfl htl hsB ?_); intro v7 w7 O7 G7)
      have HO7 := Lib.hid O7
      have HB7 := Lib.hid (Below.grown (hBd.alloc hsB (.cells #[.string x1, .string x2] 45)) G7 (by rw [World.size_alloc]; exact Nat.le_succ_of_le hsB) (fun q hq => (HOD.out.lt q hq).1))
      refine HK.out _ _ (Stand.of_grown G7 (fun k hk h => h.2 hk.symm)) ?_
      clear HK
      iterate 1 (refine mix_calmDk rfl rfl ?_; go_big_quiet_step (fail); refine wpQuiet_nil ?_)
      refine mix_endDk ?_
      go_wp2_with fail
      go_roundw
      case rel => exact ⟨i + 1, by go_num, hin, by rw [HSN.out]; exact HO7.out, HB7.out⟩
      case measure => simp [intOf]; omega
    · have hF : l.take i = l := List.take_of_length_le (by have := HN.out; omega)
      rw [hF] at hO
      have HO2 := Lib.hid hO
      clear hF hO HO
      go_wp2_with fail
      go_ret
      exact ⟨_, rfl, HO2.out, hB⟩

set_option maxRecDepth 100000 in
set_option maxHeartbeats 1000000 in
theorem law46_is (A1 A2 : Option Addr) (n1 n2 c1 c2 : Nat) (l1 l2 : List Sp) (w : World) (h1 : RdP w A1 l1) (h2 : RdP w A2 l2) (e1 : l1.length = n1) (e2 : l2.length = n2) (hA : A1 = none → c1 = 0) (hm : n1 ≤ 1000000) (hm2 : n2 ≤ 1000000) :
    Calls Try.prog 29 #[.agg #[.slice A1 n1 c1], .slice A2 n2 c2] w fun e w' => e = .returned (.bool (decide (l1 = l2))) ∧ Below w.heap.size w w' := by
  have B0 := Blk.new w 43 #[.slice A1 n1 c1]
  have bA := (Below.refl w.heap.size w).alloc (Nat.le_refl _) (.cells #[.slice A1 n1 c1] 43)
  have q0 := B0.cell 0
  have HC := Lib.hid (set_All A1 n1 c1 l1 _ (h1.below bA) e1 hA (by omega))
  have H2 := Lib.hid (h2.below bA)
  have E1 := Lib.hid e1
  have E2 := Lib.hid e2
  clear h1 h2 e1 e2 B0
  obtain ⟨r, hr⟩ : ∃ r, decide (l1 = l2) = r := ⟨_, rfl⟩
  have HRR := Lib.hid hr
  rw [hr]
  clear hr
  go_enter Try.func29, Try.ntmps29
  go_wp2_with fail
  refine HC.out.mono ?_
  rintro e w1 ⟨v1, rfl, o1, b1⟩
  have hB1 := bA.trans (b1.mono bA.size)
  obtain ⟨N, hN⟩ : ∃ N, l1.length = N := ⟨_, rfl⟩
  obtain ⟨A, c, hv, hc, hA', hr⟩ := o1.reads
  rw [hN] at hv
  subst hv
  have HR1 := Lib.hid hr
  have HN := Lib.hid hN
  have hNn : N ≤ 1000000 := by have := E1.out; omega
  clear hr hN hc o1 q0
  go_wp2_with fail
  refine (law46_mine A N c l1 w1 HR1.out HN.out hNn).mono ?_
  rintro e w2 ⟨v2, rfl, o2, b2⟩
  have hB2 := hB1.trans (b2.mono hB1.size)
  have hr2 := (H2.out.below b1).below b2
  obtain ⟨A4, c4, hv, hc, hA4, hr⟩ := o2.reads
  rw [HN.out] at hv
  subst hv
  have HR2 := Lib.hid hr
  have HR3 := Lib.hid hr2
  clear hr hr2 hc o2
  go_wp2_with fail
  refine (s46_Equal A4 A2 N n2 c4 c2 l1 l2 w2 HR2.out HR3.out HN.out E2.out (by omega) (by omega)).mono ?_
  rintro e w3 ⟨rfl, b3⟩
  rw [HRR.out]
  go_wp2_with fail
  go_ret
  exact ⟨rfl, hB2.trans (b3.mono hB2.size)⟩

theorem bnd_step (l : List Sp) (i : Nat) (hi : i < l.length) (out : List ByteArray) : bnd cmpT (l.take (i + 1)) out = putR cmpT l[i].2 false (putR cmpT l[i].1 false (bnd cmpT (l.take i) out)) := by
  unfold bnd
  rw [List.take_succ_eq_append_getElem hi, List.foldl_append]
  rfl

set_option maxRecDepth 100000 in
set_option maxHeartbeats 4000000 in
theorem ref46_bounds (A1 A2 : Option Addr) (n1 n2 c1 c2 : Nat) (l1 l2 : List Sp) (w : World) (h1 : RdP w A1 l1) (h2 : RdP w A2 l2) (e1 : l1.length = n1) (e2 : l2.length = n2) (hm : n1 ≤ 1000) (hm2 : n2 ≤ 1000) :
    Calls Try.prog 53 #[.slice A1 n1 c1, .slice A2 n2 c2] w fun e w' => ∃ v, e = .returned v ∧ OwnX w' w.heap.size v (bnd cmpT l2 (bnd cmpT l1 [])) ∧ Below w.heap.size w w' := by
  have H1 := Lib.hid h1
  have H2 := Lib.hid h2
  have E1 := Lib.hid e1
  have E2 := Lib.hid e2
  have O0 : OwnX w w.heap.size (.slice none 0 0) [] := OwnX.nil_ _ _
  clear h1 h2 e1 e2
  obtain ⟨R1, hR1⟩ : ∃ R1, bnd cmpT l1 [] = R1 := ⟨_, rfl⟩
  have HR1 := Lib.hid hR1
  obtain ⟨R, hR⟩ : ∃ R, bnd cmpT l2 R1 = R := ⟨_, rfl⟩
  have HRR := Lib.hid hR
  rw [hR1, hR]
  clear hR1 hR
  go_enter Try.func53, Try.ntmps53
  go_wp2_with fail
  go_loopw [5, 6] (fun v5 vi wr => ∃ (i : Nat) (T : List ByteArray), vi = .int .i64 i ∧ i ≤ n1 ∧ bnd cmpT (l1.take i) [] = T ∧ T.length ≤ 2 * i ∧ OwnX wr w.heap.size v5 T ∧ Below w.heap.size w wr) (fun _ vi _ => n1 - (intOf vi).toNat)
  case atStart => exact ⟨0, [], rfl, Nat.zero_le _, rfl, Nat.le_refl _, O0, Below.refl _ _⟩
  case round =>
    clear O0
    obtain ⟨i, T, rfl, hi, hT, hTl, hO, hB⟩ := hrel
    have HT := Lib.hid hT
    have HO := Lib.hid hO
    have hsB := hB.size
    clear hT hO
    by_cases hin : i < n1
    · have hil : i < l1.length := by have := E1.out; omega
      obtain ⟨b, off, rfl, hb, hc1⟩ := (H1.out.below hB).at_ (by omega)
      obtain ⟨p1, p2⟩ := hc1 i hil
      have hsn := bnd_step l1 i hil []
      obtain ⟨⟨x1, x2⟩, hx⟩ : ∃ x, l1[i]'hil = x := ⟨_, rfl⟩
      rw [hx, HT.out] at hsn
      rw [hx] at p1 p2
      simp only at p1 p2
      have HSN := Lib.hid hsn
      have hl1 := putR_len (c := cmpT) x1 false T
      obtain ⟨T1, hT1⟩ : ∃ T1, putR cmpT x1 false T = T1 := ⟨_, rfl⟩
      have hl2 := putR_len (c := cmpT) x2 false T1
      obtain ⟨T2, hT2⟩ : ∃ T2, putR cmpT x2 false T1 = T2 := ⟨_, rfl⟩
      rw [hT1] at hl1
      rw [hT2] at hl2
      have HT1 := Lib.hid hT1
      have HT2 := Lib.hid hT2
      have HLEN : Hid (T2.length ≤ T.length + 2) := Lib.hid (by simp at hl1 hl2; omega)
      have HLEN1 : Hid (T1.length ≤ T.length + 1) := Lib.hid (by simp at hl1; omega)
      obtain ⟨z, hz⟩ : ∃ z, T.length = z := ⟨_, rfl⟩
      obtain ⟨A5, c5, hv, -, -, hrd⟩ := HO.out.reads
      rw [hz] at hv hrd hTl
      subst hv
      have HZ := Lib.hid hz
      have HRD := Lib.hid hrd
      clear hc1 hx hsn hT1 hT2 hl1 hl2 hz hrd
      go_upto_region 5 with fail
      have q0 : ∀ p : Kept (fun k => k < wr.heap.size) wr.drew, p.v.cell? ⟨b, off + i * 2, none⟩ = some (.string x1) := fun p => p.h.cell hb p1
      have q1 : ∀ p : Kept (fun k => k < wr.heap.size) wr.drew, p.v.cell? ⟨b, off + i * 2 + 1, none⟩ = some (.string x2) := fun p => p.h.cell hb p2
      have hBd : Below w.heap.size w wr.drew := below_drewN hB 1
      clear p1 p2
      refine wp_region_mixDk (M := []) (fun k => k < wr.heap.size) [0, 1, 2, 3, 4, 5, 7, 8, 9, 10, 11, 6, 12, 13] (by kernel_rfl) (by kernel_rfl) ?_
      iterate 11 (refine mix_calmDk rfl rfl ?_; go_big_quiet_step (fail); refine wpQuiet_nil ?_)
      refine mix_loudDk rfl (by kernel_rfl) rfl ?_
      intro K1 hK1
      have HK := Lib.hid hK1
      clear hK1 
      go_wp2_with fail
      refine (ref46_put A5 z c5 T x1 wr.drew HRD.out (by omega)).mono ?_
      rintro x w6 ⟨v6, rfl, o6, b6⟩
      rw [HT1.out] at o6
      have hB6 := hBd.trans (b6.mono hBd.size)
      obtain ⟨z6, hz6⟩ : ∃ z, T1.length = z := ⟨_, rfl⟩
      obtain ⟨A6, c6, hv, -, -, hrd⟩ := o6.reads
      rw [hz6] at hv hrd
      subst hv
      have HRD6 := Lib.hid hrd
      have HZ6 := Lib.hid hz6
      clear hrd hz6 o6
      go_wp2_with fail
      refine HK.out _ _ (Stand.of_below b6) ?_
      clear HK
      refine mix_loudDk rfl (by kernel_rfl) rfl ?_
      intro K1 hK1
      have HK := Lib.hid hK1
      clear hK1 
      go_wp2_with fail
      refine (ref46_put A6 z6 c6 T1 x2 w6 HRD6.out (by have := HLEN1.out; have := HZ.out; have := HZ6.out; omega)).mono ?_
      rintro x w7 ⟨v7, rfl, o7, b7⟩
      rw [HT2.out] at o7
      have hB7 := hB6.trans (b7.mono hB6.size)
      have HO7 := Lib.hid (o7.base_le (b' := w.heap.size) hB6.size)
      clear o7
      go_wp2_with fail
      refine HK.out _ _ (Stand.of_below b7) ?_
      clear HK
      iterate 1 (refine mix_calmDk rfl rfl ?_; go_big_quiet_step (fail); refine wpQuiet_nil ?_)
      refine mix_endDk ?_
      go_wp2_with fail
      go_roundw
      case rel => exact ⟨i + 1, T2, by go_num, hin, by rw [HSN.out]; show putR cmpT x2 false (putR cmpT x1 false T) = T2; rw [HT1.out, HT2.out], by have := HLEN.out; have := HZ.out; omega, HO7.out, hB7⟩
      case measure => simp [intOf]; omega
    · have hin' : i = n1 := by omega
      subst hin'
      have hT1 : T = R1 := by rw [← HT.out, List.take_of_length_le (by have := E1.out; omega), HR1.out]
      subst hT1
      have HOA := Lib.hid HO.out
      have HB1 := hB
      go_wp2_with fail
      go_loopw [5, 7] (fun v5 vi wr => ∃ (i : Nat) (T' : List ByteArray), vi = .int .i64 i ∧ i ≤ n2 ∧ bnd cmpT (l2.take i) T = T' ∧ T'.length ≤ 2000 + 2 * i ∧ OwnX wr w.heap.size v5 T' ∧ Below w.heap.size w wr) (fun _ vi _ => n2 - (intOf vi).toNat)
      case atStart => exact ⟨0, T, rfl, Nat.zero_le _, rfl, by omega, HOA.out, HB1⟩
      case round =>
        clear HOA HB1
        have HBASE := Lib.hid (rfl : T = T)
        obtain ⟨R1, hR1'⟩ : ∃ R1, R1 = T := ⟨_, rfl⟩
        rw [← hR1'] at hrel HRR
        clear HT HO hTl HBASE
        subst hR1'
        obtain ⟨i, T, rfl, hi, hT, hTl, hO, hB⟩ := hrel
        have HT := Lib.hid hT
        have HO := Lib.hid hO
        have hsB := hB.size
        clear hT hO
        by_cases hin : i < n2
        · have hil : i < l2.length := by have := E2.out; omega
          obtain ⟨b, off, rfl, hb, hc1⟩ := (H2.out.below hB).at_ (by omega)
          obtain ⟨p1, p2⟩ := hc1 i hil
          have hsn := bnd_step l2 i hil R1
          obtain ⟨⟨x1, x2⟩, hx⟩ : ∃ x, l2[i]'hil = x := ⟨_, rfl⟩
          rw [hx, HT.out] at hsn
          rw [hx] at p1 p2
          simp only at p1 p2
          have HSN := Lib.hid hsn
          have hl1 := putR_len (c := cmpT) x1 false T
          obtain ⟨T1, hT1⟩ : ∃ T1, putR cmpT x1 false T = T1 := ⟨_, rfl⟩
          have hl2 := putR_len (c := cmpT) x2 false T1
          obtain ⟨T2, hT2⟩ : ∃ T2, putR cmpT x2 false T1 = T2 := ⟨_, rfl⟩
          rw [hT1] at hl1
          rw [hT2] at hl2
          have HT1 := Lib.hid hT1
          have HT2 := Lib.hid hT2
          have HLEN : Hid (T2.length ≤ T.length + 2) := Lib.hid (by simp at hl1 hl2; omega)
          have HLEN1 : Hid (T1.length ≤ T.length + 1) := Lib.hid (by simp at hl1; omega)
          obtain ⟨z, hz⟩ : ∃ z, T.length = z := ⟨_, rfl⟩
          obtain ⟨A5, c5, hv, -, -, hrd⟩ := HO.out.reads
          rw [hz] at hv hrd hTl
          subst hv
          have HZ := Lib.hid hz
          have HRD := Lib.hid hrd
          clear hc1 hx hsn hT1 hT2 hl1 hl2 hz hrd
          go_upto_region 9 with fail
          have q0 : ∀ p : Kept (fun k => k < wr.heap.size) wr.drew, p.v.cell? ⟨b, off + i * 2, none⟩ = some (.string x1) := fun p => p.h.cell hb p1
          have q1 : ∀ p : Kept (fun k => k < wr.heap.size) wr.drew, p.v.cell? ⟨b, off + i * 2 + 1, none⟩ = some (.string x2) := fun p => p.h.cell hb p2
          have hBd : Below w.heap.size w wr.drew := below_drewN hB 1
          clear p1 p2
          refine wp_region_mixDk (M := []) (fun k => k < wr.heap.size) [0, 1, 2, 3, 4, 5, 7, 8, 9, 10, 11, 6, 12, 13] (by kernel_rfl) (by kernel_rfl) ?_
          iterate 11 (refine mix_calmDk rfl rfl ?_; go_big_quiet_step (fail); refine wpQuiet_nil ?_)
          refine mix_loudDk rfl (by kernel_rfl) rfl ?_
          intro K1 hK1
          have HK := Lib.hid hK1
          clear hK1 
          go_wp2_with fail
          refine (ref46_put A5 z c5 T x1 wr.drew HRD.out (by omega)).mono ?_
          rintro x w6 ⟨v6, rfl, o6, b6⟩
          rw [HT1.out] at o6
          have hB6 := hBd.trans (b6.mono hBd.size)
          obtain ⟨z6, hz6⟩ : ∃ z, T1.length = z := ⟨_, rfl⟩
          obtain ⟨A6, c6, hv, -, -, hrd⟩ := o6.reads
          rw [hz6] at hv hrd
          subst hv
          have HRD6 := Lib.hid hrd
          have HZ6 := Lib.hid hz6
          clear hrd hz6 o6
          go_wp2_with fail
          refine HK.out _ _ (Stand.of_below b6) ?_
          clear HK
          refine mix_loudDk rfl (by kernel_rfl) rfl ?_
          intro K1 hK1
          have HK := Lib.hid hK1
          clear hK1 
          go_wp2_with fail
          refine (ref46_put A6 z6 c6 T1 x2 w6 HRD6.out (by have := HLEN1.out; have := HZ.out; have := HZ6.out; omega)).mono ?_
          rintro x w7 ⟨v7, rfl, o7, b7⟩
          rw [HT2.out] at o7
          have hB7 := hB6.trans (b7.mono hB6.size)
          have HO7 := Lib.hid (o7.base_le (b' := w.heap.size) hB6.size)
          clear o7
          go_wp2_with fail
          refine HK.out _ _ (Stand.of_below b7) ?_
          clear HK
          iterate 1 (refine mix_calmDk rfl rfl ?_; go_big_quiet_step (fail); refine wpQuiet_nil ?_)
          refine mix_endDk ?_
          go_wp2_with fail
          go_roundw
          case rel => exact ⟨i + 1, T2, by go_num, hin, by rw [HSN.out]; show putR cmpT x2 false (putR cmpT x1 false T) = T2; rw [HT1.out, HT2.out], by have := HLEN.out; have := HZ.out; omega, HO7.out, hB7⟩
          case measure => simp [intOf]; omega
        · have hin2 : i = n2 := by omega
          subst hin2
          have hT2 : T = R := by rw [← HT.out, List.take_of_length_le (by have := E2.out; omega), HRR.out]
          subst hT2
          go_wp2_with fail
          go_ret
          exact ⟨_, rfl, HO.out, hB⟩
end Go.Proofs.Ytomefcngaclehaa
