/- Contract of the reference's Unquote. -/
import Derived.Test.YtimmfcbpdnlfjaaDoorRnY
import Derived.Test.YtimmfcbpdnlfjaaDoorRnZ
import Derived.Test.YtimmfcbpdnlfjaaDoorStrOf
namespace Go.Proofs.YtimmfcbpdnlfjaaDoor
open Go.RowKit Go.Sort Go.Lib

theorem map_app1 (t : List UInt8) (o : Option (List UInt8)) (c : UInt8) : (o.map (c :: ·)).map (t ++ ·) = o.map ((t ++ [c]) ++ ·) := by cases o <;> simp

set_option maxRecDepth 100000 in
set_option maxHeartbeats 8000000 in
theorem ref01_Unquote (s : ByteArray) (hs : s.size ≤ 100000000) (w : World) (hT : Tabs w) : Calls Tryd.prog 41 #[.string s] w fun e w' => e = .returned (refV s) ∧ Below w.heap.size w w' := by
  obtain ⟨V, hV⟩ : ∃ V, refV s = V := ⟨_, rfl⟩
  have HV := Lib.hid hV
  have HT := Lib.hid hT
  rw [hV]
  obtain ⟨R, hR⟩ : ∃ R, refP ((bl s).drop 1) = R := ⟨_, rfl⟩
  have HR := Lib.hid hR
  have HVn : Hid (R = none → V = .tuple #[.string ⟨#[]⟩, .bool false]) := Lib.hid (fun h => by rw [← HV.out, refV, HR.out, h])
  have HVs : Hid (∀ t : ByteArray, R = some (bl t) → V = .tuple #[.string t, .bool (decide (quoteP t = bl s))]) := Lib.hid (fun t h => by
    rw [← HV.out, refV, HR.out, h]
    have e : (⟨(bl t).toArray⟩ : ByteArray) = t := (bl_is t).symm
    simp only
    rw [e])
  clear hV hT hR HV
  go_enter Tryd.func41, Tryd.ntmps41
  go_wp2_with fail
  go_loopw [4, 5] (fun v4 v5 wr => ∃ (i : Nat) (t : ByteArray), v5 = .int .i64 i ∧ v4 = .string t ∧ 1 ≤ i ∧ i ≤ s.size + 1 ∧ t.size ≤ i ∧ Below w.heap.size w wr ∧ (refP ((bl s).drop i)).map (bl t ++ ·) = R) (fun _ v5 _ => s.size + 1 - (RowKit.intOf v5).toNat)
  case atStart => exact ⟨1, ⟨#[]⟩, rfl, rfl, Nat.le_refl _, by omega, Nat.zero_le _, Below.refl _ _, by rw [HR.out]; cases R <;> rfl⟩
  case round =>
    obtain ⟨i, t, rfl, rfl, hi1, his, hti, hB, hI⟩ := hrel
    have HI := Lib.hid hI
    clear hI
    by_cases hi : i < s.size
    · have hbd := bl_drop s i hi
      have hlen : ((bl s).drop (i + 1)).length = s.size - (i + 1) := by rw [List.length_drop, bl_length]
      have hrc := refP_cons (s[i]'hi) ((bl s).drop (i + 1))
      rw [← hbd, hlen] at hrc
      have HRC := Lib.hid hrc
      have H34 : Hid ((s[i]'hi) = 34 ↔ (s[i]'hi).toNat = 34) := Lib.hid (u8_eq_iff (s[i]'hi) 34 (by decide))
      have H92 : Hid ((s[i]'hi) = 92 ↔ (s[i]'hi).toNat = 92) := Lib.hid (u8_eq_iff (s[i]'hi) 92 (by decide))
      have hix := fun w => index_at s i hi w
      clear hbd hlen hrc
      by_cases hc34 : (s[i]'hi).toNat = 34
      · have hq : (((s[i]'hi).toNat : Int) == 34) = true := by simp; omega
        have hR0 : R = some (bl t) := by
          have h1 := HRC.out
          rw [if_pos (H34.out.2 hc34)] at h1
          rw [← HI.out, h1, Option.map_some, List.append_nil]
        have HV2 := Lib.hid (HVs.out t hR0)
        have HQ := Lib.hid (ref01_Quote t (by omega) wr (HT.out.below hB))
        obtain ⟨Q, hQ⟩ : ∃ Q, quoteP t = Q := ⟨_, rfl⟩
        rw [hQ] at HV2 HQ
        have hdq : Hid ((Q == s.toList) = decide (Q = bl s)) := Lib.hid (by
          by_cases h : Q = bl s
          · rw [decide_eq_true h, Lib.toList_data]; exact beq_iff_eq.2 h
          · rw [decide_eq_false h, Lib.toList_data]; exact beq_eq_false_iff_ne.2 h)
        clear hR0 hc34 hQ
        go_wp2_with fail
        refine HQ.out.mono ?_
        rintro x w2 ⟨rfl, b2⟩
        replace hB := hB.trans (b2.mono hB.size)
        go_wp2_with fail
        go_ret2
        exact ⟨by rw [HV2.out, ← hdq.out]; rfl, hB⟩
      have hq34 : (((s[i]'hi).toNat : Int) == 34) = false := by simp; omega
      by_cases hc92 : (s[i]'hi).toNat = 92
      case neg =>
        have hq : (((s[i]'hi).toNat : Int) != 92) = true := by simp; omega
        have hone := bl_one s i hi
        have HX : Hid ((refP ((bl s).drop (i + 1))).map (bl (t ++ s.extract i (i + 1)) ++ ·) = R) := Lib.hid (by
          have h1 := HRC.out
          rw [if_neg (fun h => hc34 (H34.out.1 h)), if_pos (fun h => hc92 (H92.out.1 h))] at h1
          rw [← HI.out, h1, map_app1, bl_append, hone])
        have hes : (t ++ s.extract i (i + 1)).size ≤ i + 1 := by
          rw [ByteArray.size_append, ByteArray.size_extract]; omega
        have HES := Lib.hid hes
        have hcut := fun w => cut_mid Tryd.underlying9 s i (i + 1) (by omega) (by omega) w
        rw [show ((i + 1 : Nat) : Int) = (i : Int) + 1 by omega] at hcut
        clear hc34 hc92 hone hes
        go_wp2_with fail
        go_roundw
        case rel => exact ⟨i + 1, _, by go_num, rfl, by omega, by omega, HES.out, hB, HX.out⟩
        case measure => simp [RowKit.intOf]; omega
      have hq92 : (((s[i]'hi).toNat : Int) != 92) = false := by simp; omega
      have hr2 := HRC.out
      rw [if_neg (fun h => hc34 (H34.out.1 h)), if_neg (by simp only [ne_eq, Classical.not_not]; exact H92.out.2 hc92)] at hr2
      have HR2 := Lib.hid hr2
      clear hr2 HRC hc34 hc92
      by_cases hl1 : i + 1 < s.size
      case neg =>
        have hd : decide ((s.size : Int) ≤ (i : Int) + 1) = true := by simp; omega
        have HV2 := Lib.hid (HVn.out (by
          have h1 := HR2.out
          rw [if_pos (by omega)] at h1
          rw [← HI.out, h1]
          rfl))
        go_wp2_with fail
        go_ret2
        exact ⟨by rw [HV2.out]; rfl, hB⟩
      have hd1 : decide ((s.size : Int) ≤ (i : Int) + 1) = false := by simp; omega
      have hix1 := fun w => index_at s (i + 1) hl1 w
      rw [show ((i + 1 : Nat) : Int) = (i : Int) + 1 by omega] at hix1
      have hr3 := HR2.out
      rw [if_neg (by omega), getD_at s (i + 1) 0 (by omega)] at hr3
      have HR3 := Lib.hid hr3
      have H120 : Hid ((s[i + 1]'hl1) = 120 ↔ (s[i + 1]'hl1).toNat = 120) := Lib.hid (u8_eq_iff (s[i + 1]'hl1) 120 (by decide))
      clear hr3
      by_cases hx : (s[i + 1]'hl1).toNat = 120
      case neg =>
        have hqx : (((s[i + 1]'hl1).toNat : Int) != 120) = true := by simp; omega
        have hone := bl_one s (i + 1) hl1
        have HX : Hid ((refP ((bl s).drop (i + 2))).map (bl (t ++ s.extract (i + 1) (i + 2)) ++ ·) = R) := Lib.hid (by
          have h1 := HR3.out
          rw [if_pos (fun h => hx (H120.out.1 h)), List.drop_drop] at h1
          rw [← HI.out, h1, map_app1, bl_append, hone])
        have hes : (t ++ s.extract (i + 1) (i + 2)).size ≤ i + 2 := by
          rw [ByteArray.size_append, ByteArray.size_extract]; omega
        have HES := Lib.hid hes
        have hcut := fun w => cut_mid Tryd.underlying9 s (i + 1) (i + 2) (by omega) (by omega) w
        rw [show ((i + 1 : Nat) : Int) = (i : Int) + 1 by omega, show ((i + 2 : Nat) : Int) = (i : Int) + 2 by omega] at hcut
        clear hx hone hes
        go_wp2_with fail
        go_roundw
        case rel => exact ⟨i + 2, _, by go_num, rfl, by omega, by omega, HES.out, hB, HX.out⟩
        case measure => simp [RowKit.intOf]; omega
      have hqx : (((s[i + 1]'hl1).toNat : Int) != 120) = false := by simp; omega
      have hr4 := HR3.out
      rw [if_neg (by simp only [ne_eq, Classical.not_not]; exact H120.out.2 hx)] at hr4
      have HR4 := Lib.hid hr4
      clear hr4 HR3 HR2
      by_cases hl3 : i + 3 < s.size
      case neg =>
        have hd3 : decide ((s.size : Int) ≤ (i : Int) + 3) = true := by simp; omega
        have HV2 := Lib.hid (HVn.out (by
          have h1 := HR4.out
          rw [if_pos (by omega)] at h1
          rw [← HI.out, h1]
          rfl))
        go_wp2_with fail
        go_ret2
        exact ⟨by rw [HV2.out]; rfl, hB⟩
      have hd3 : decide ((s.size : Int) ≤ (i : Int) + 3) = false := by simp; omega
      have hi2 := fun w => index_at s (i + 2) (by omega) w
      have hi3 := fun w => index_at s (i + 3) (by omega) w
      rw [show ((i + 2 : Nat) : Int) = (i : Int) + 2 by omega] at hi2
      rw [show ((i + 3 : Nat) : Int) = (i : Int) + 3 by omega] at hi3
      have hr5 := HR4.out
      rw [getD_at s (i + 1) 1 (by omega), getD_at s (i + 1) 2 (by omega), List.drop_drop] at hr5
      have HR5 := Lib.hid hr5
      clear hr5 HR4 hx
      have F2 := Lib.hid (ref01_figure (s[i + 2]'(by omega)))
      have F3 := Lib.hid (ref01_figure (s[i + 3]'(by omega)))
      have hle2 := figI_le (s[i + 2]'(by omega))
      have hle3 := figI_le (s[i + 3]'(by omega))
      obtain ⟨x2, hxx2⟩ : ∃ x, s[i + 2]'(by omega) = x := ⟨_, rfl⟩
      obtain ⟨x3, hxx3⟩ : ∃ x, s[i + 3]'(by omega) = x := ⟨_, rfl⟩
      rw [hxx2] at hi2 F2 hle2
      rw [hxx3] at hi3 F3 hle3
      have HR6 : Hid (refP ((bl s).drop i) = if s.size - (i + 1) < 3 ∨ figI x2 < 0 ∨ figI x3 < 0 then none else (refP ((bl s).drop (i + 4))).map (UInt8.ofNat (16 * figI x2 + figI x3).toNat :: ·)) := Lib.hid (by rw [← hxx2, ← hxx3]; exact HR5.out)
      clear HR5 hxx2 hxx3
      obtain ⟨f2, hf2⟩ : ∃ f, figI x2 = f := ⟨_, rfl⟩
      obtain ⟨f3, hf3⟩ : ∃ f, figI x3 = f := ⟨_, rfl⟩
      rw [hf2] at F2 hle2 HR6
      rw [hf3] at F3 hle3 HR6
      clear hf2 hf3
      by_cases hn2 : f2 < 0
      case pos =>
        have hdn : decide (f2 < 0) = true := by simp; omega
        have HV2 := Lib.hid (HVn.out (by
          have h1 := HR6.out
          rw [if_pos (.inr (.inl hn2))] at h1
          rw [← HI.out, h1]
          rfl))
        go_wp2_with fail
        refine (F2.out _).mono ?_
        rintro e w2 ⟨rfl, rfl⟩
        go_wp2_with fail
        go_ret2
        exact ⟨by rw [HV2.out]; rfl, hB⟩
      have hdn2 : decide (f2 < 0) = false := by simp; omega
      by_cases hn3 : f3 < 0
      case pos =>
        have hdn : decide (f3 < 0) = true := by simp; omega
        have HV2 := Lib.hid (HVn.out (by
          have h1 := HR6.out
          rw [if_pos (.inr (.inr hn3))] at h1
          rw [← HI.out, h1]
          rfl))
        go_wp2_with fail
        refine (F2.out _).mono ?_
        rintro e w2 ⟨rfl, rfl⟩
        go_wp2_with fail
        refine (F3.out _).mono ?_
        rintro e w2 ⟨rfl, rfl⟩
        go_wp2_with fail
        go_ret2
        exact ⟨by rw [HV2.out]; rfl, hB⟩
      have hdn3 : decide (f3 < 0) = false := by simp; omega
      have HX : Hid ((refP ((bl s).drop (i + 4))).map (bl (t ++ ⟨#[UInt8.ofNat (16 * f2 + f3).toNat]⟩) ++ ·) = R) := Lib.hid (by
        have h1 := HR6.out
        rw [if_neg (by omega)] at h1
        rw [← HI.out, h1, map_app1, bl_append]
        rfl)
      go_wp2_with fail
      refine (F2.out _).mono ?_
      rintro e w2 ⟨rfl, rfl⟩
      go_wp2_with fail
      refine (F3.out _).mono ?_
      rintro e w2 ⟨rfl, rfl⟩
      go_upto_region 16 with fail
      have HWa : Hid (IntKind.i64.wrap ((i : Int) + 2) = (i : Int) + 2) := Lib.hid (by rw [IntKind.wrap_i64]; omega)
      have HWb : Hid (IntKind.i64.wrap ((i : Int) + 3) = (i : Int) + 3) := Lib.hid (by rw [IntKind.wrap_i64]; omega)
      have HWc : Hid (IntKind.i64.wrap (16 * f2) = 16 * f2) := Lib.hid (by rw [IntKind.wrap_i64]; omega)
      have HWd : Hid (IntKind.i64.wrap (16 * f2 + f3) = 16 * f2 + f3) := Lib.hid (by rw [IntKind.wrap_i64]; omega)
      have HU8 : Hid (IntKind.u8.wrap (16 * f2 + f3) = 16 * f2 + f3) := Lib.hid (by
        have h : IntKind.u8.wrap (16 * f2 + f3) = (16 * f2 + f3) % 256 := rfl
        rw [h]
        omega)
      have HVB : Hid (Value.int .u8 (16 * f2 + f3) = vb (UInt8.ofNat (16 * f2 + f3).toNat)) := Lib.hid (by
        unfold vb
        rw [UInt8.toNat_ofNat', Nat.mod_eq_of_lt (by omega), Int.toNat_of_nonneg (by omega)])
      refine wp_region_mixDk (M := []) (fun _ => True) [0, 1, 2, 3, 4, 7, 8, 9, 10, 5, 6, 11, 12, 13, 14, 15, 16, 17] (by kernel_rfl) (by kernel_rfl) ?_
      iterate 4 (refine mix_calmDk rfl rfl ?_; go_big_quiet_step (fail); refine wpQuiet_nil ?_)
      try rw [HWa.out]
      iterate 4 (refine mix_calmDk rfl rfl ?_; go_big_quiet_step (fail); refine wpQuiet_nil ?_)
      try rw [HWb.out]
      iterate 1 (refine mix_calmDk rfl rfl ?_; go_big_quiet_step (fail); refine wpQuiet_nil ?_)
      refine mix_loudDk rfl (by kernel_rfl) rfl ?_
      intro K1 hK1
      have HK := Lib.hid hK1
      clear hK1 
      go_wp2_with fail
      refine (F2.out wr.drew).mono ?_
      rintro x w2 ⟨rfl, rfl⟩
      go_wp2_with fail
      refine HK.out _ _ (Stand.refl _ _) ?_
      clear HK
      iterate 1 (refine mix_calmDk rfl rfl ?_; go_big_quiet_step (fail); refine wpQuiet_nil ?_)
      try rw [HWc.out]
      refine mix_loudDk rfl (by kernel_rfl) rfl ?_
      intro K1 hK1
      have HK := Lib.hid hK1
      clear hK1 
      go_wp2_with fail
      refine (F3.out wr.drew).mono ?_
      rintro x w2 ⟨rfl, rfl⟩
      go_wp2_with fail
      refine HK.out _ _ (Stand.refl _ _) ?_
      clear HK
      iterate 1 (refine mix_calmDk rfl rfl ?_; go_big_quiet_step (fail); refine wpQuiet_nil ?_)
      try rw [HWd.out]
      iterate 1 (refine mix_calmDk rfl rfl ?_; go_big_quiet_step (fail); refine wpQuiet_nil ?_)
      try rw [HU8.out]
      refine mix_loudDk rfl (by kernel_rfl) rfl ?_
      intro K1 hK1
      have HK := Lib.hid hK1
      clear hK1 
      go_wp2_with fail
      refine HK.out _ _ ((Stand.refl _ _).alloc _) ?_
      clear HK
      have hcv : ∀ p : Kept (fun _ => True) (wr.alloc (.cells #[.int .u8 (16 * f2 + f3)] 5)).drew, (convert 59 9 (.slice (some ⟨wr.heap.size, 0, none⟩) 1 1)).run Tryd.prog p.v = .ok (.string ⟨#[UInt8.ofNat (16 * f2 + f3).toNat]⟩) p.v :=
        fun p => run_string_of p.v (wr.heap.size + 1) _ 1 1 [UInt8.ofNat (16 * f2 + f3).toNat] (p.h.reads (fun _ _ => trivial) (show wr.heap.size + 1 ≤ (wr.alloc (.cells #[.int .u8 (16 * f2 + f3)] 5)).heap.size by simp) (by simpa using (reads_one wr 5 _ _ HVB.out).drew))
      iterate 1 (refine mix_calmDk rfl rfl ?_; go_big_quiet_step (fail); refine wpQuiet_nil ?_)
      clear hcv
      iterate 2 (refine mix_calmDk rfl rfl ?_; go_big_quiet_step (fail); refine wpQuiet_nil ?_)
      refine mix_endDk ?_
      have hB3 : Below w.heap.size w (wr.alloc (.cells #[.int .u8 (16 * f2 + f3)] 5)).drew := below_drewN (hB.alloc hB.size (.cells #[.int .u8 (16 * f2 + f3)] 5)) 1
      have hes : (t ++ ⟨#[UInt8.ofNat (16 * f2 + f3).toNat]⟩).size ≤ i + 4 := by
        rw [ByteArray.size_append]
        show t.size + 1 ≤ _
        omega
      have HES := Lib.hid hes
      clear hes hB
      go_wp2_with fail
      go_roundw
      case rel => exact ⟨i + 4, _, by go_num, rfl, by omega, by omega, HES.out, hB3, HX.out⟩
      case measure => simp [RowKit.intOf]; omega
    · have HV2 := Lib.hid (HVn.out (by
        have h1 := HI.out
        rw [List.drop_of_length_le (by rw [bl_length]; omega), refP_nil] at h1
        exact h1.symm))
      go_wp2_with fail
      go_ret2
      exact ⟨by rw [HV2.out]; rfl, hB⟩
end Go.Proofs.YtimmfcbpdnlfjaaDoor
