/- Contract of runes.Unquote. -/
import Derived.Test.YtimmfcbpdnlfjaaDoorRnX
import Derived.Test.YtimmfcbpdnlfjaaDoorQuoP
import Derived.Test.YtimmfcbpdnlfjaaDoorWireB
import Derived.Test.YtimmfcbpdnlfjaaDoorStrOf
import Derived.StillTailTactics
import Derived.Test.YtimmfcbpdnlfjaaDoorMixK
import Derived.Deep.DeepMust
namespace Go.Proofs.YtimmfcbpdnlfjaaDoor
open Go.RowKit Go.Sort Go.Lib

theorem index_at (s : ByteArray) (k : Nat) (hk : k < s.size) (w : World) : (Instr.index 9 (.string s) (.int .i64 (k : Int))).run Tryd.prog w = .ok (.int .u8 (s[k].toNat)) w := by
  rw [run_index_string w _ _ _ _ Tryd.underlying9, dif_pos ⟨by omega, by omega⟩]
  simp only [Int.toNat_natCast]

theorem getD_at (t : ByteArray) (a j : Nat) (h : a + j < t.size) : ((bl t).drop a).getD j 0 = t[a + j] := by
  rw [List.getD_eq_getElem?_getD, List.getElem?_drop, List.getElem?_eq_getElem (by rw [bl_length]; exact h), Option.getD_some, bl_get t _ h]
theorem u8_ne (c : UInt8) (n : Nat) (hn : n < 256) (h : ¬ c = UInt8.ofNat n) : ((c.toNat : Int) == (n : Int)) = false := by
  rw [beq_eq_false_iff_ne]
  intro e
  exact h ((u8_eq_iff c n hn).2 (by omega))
theorem u8_is (c : UInt8) (n : Nat) (hn : n < 256) (h : c = UInt8.ofNat n) : ((c.toNat : Int) == (n : Int)) = true := by
  rw [beq_iff_eq]
  have := (u8_eq_iff c n hn).1 h
  omega

set_option maxRecDepth 100000 in
set_option maxHeartbeats 8000000 in
theorem runes_Unquote (s : ByteArray) (hs : s.size ≤ 100000000) (w : World) (hT : Tabs w) : Calls Tryd.prog 36 #[.string s] w fun e w' => e = .returned (unqV s) ∧ Below w.heap.size w w' := by
  obtain ⟨V, hV⟩ : ∃ V, unqV s = V := ⟨_, rfl⟩
  have HV := Lib.hid hV
  rw [hV]
  clear hV
  by_cases h2 : s.size < 2
  · have hd : decide ((s.size : Int) < 2) = true := by simp; omega
    have HR : Hid (V = .tuple #[.string ⟨#[]⟩, .int .i64 10]) := Lib.hid (by rw [← HV.out, unqV, if_neg (by omega)])
    clear hT
    go_enter Tryd.func36, Tryd.ntmps36
    go_wp2_with fail
    go_ret2
    exact ⟨by rw [HR.out]; rfl, Below.refl _ _⟩
  have hd : decide ((s.size : Int) < 2) = false := by simp; omega
  have hg0 := get!_eq s 0 (by omega)
  have hgl := get!_eq s (s.size - 1) (by omega)
  by_cases hf : s[0].toNat = 34
  case neg =>
    have hq : ((s[0].toNat : Int) != 34) = true := by simp; omega
    have HR : Hid (V = .tuple #[.string ⟨#[]⟩, .int .i64 10]) := Lib.hid (by rw [← HV.out, unqV, hg0, if_neg (fun h => hf h.2.1)])
    clear hT hg0 hgl hf
    go_enter Tryd.func36, Tryd.ntmps36
    go_wp2_with fail
    go_ret2
    exact ⟨by rw [HR.out]; rfl, Below.refl _ _⟩
  have hq : ((s[0].toNat : Int) != 34) = false := by simp; omega
  have hil := index_at s (s.size - 1) (by omega)
  rw [show ((s.size - 1 : Nat) : Int) = (s.size : Int) - 1 by omega] at hil
  by_cases hl : s[s.size - 1].toNat = 34
  case neg =>
    have hq2 : ((s[s.size - 1].toNat : Int) != 34) = true := by simp; omega
    have HR : Hid (V = .tuple #[.string ⟨#[]⟩, .int .i64 10]) := Lib.hid (by rw [← HV.out, unqV, hgl, if_neg (fun h => hl h.2.2.1)])
    clear hT hg0 hgl hf hl
    go_enter Tryd.func36, Tryd.ntmps36
    go_wp2_with fail
    go_ret2
    exact ⟨by rw [HR.out]; rfl, Below.refl _ _⟩
  have hq2 : ((s[s.size - 1].toNat : Int) != 34) = false := by simp; omega
  obtain ⟨t, ht⟩ : ∃ t, s.extract 1 (s.size - 1) = t := ⟨_, rfl⟩
  have hts : t.size = s.size - 2 := by rw [← ht, ByteArray.size_extract]; omega
  have hcut := fun w => cut_mid Tryd.underlying9 s 1 (s.size - 1) (by omega) (by omega) w
  rw [show ((s.size - 1 : Nat) : Int) = (s.size : Int) - 1 by omega, ht] at hcut
  have hVt : V = if quoteP ⟨(backP (bl t)).toArray⟩ = bl s then .tuple #[.string ⟨(backP (bl t)).toArray⟩, .int .i64 0] else .tuple #[.string ⟨#[]⟩, .int .i64 10] := by
    rw [← HV.out, unqV, hg0, hgl, ht]
    by_cases hqq : quoteP ⟨(backP (bl t)).toArray⟩ = bl s
    · rw [if_pos ⟨by omega, hf, hl, hqq⟩, if_pos hqq]
    · rw [if_neg (fun h => hqq h.2.2.2), if_neg hqq]
  have HVT := Lib.hid hVt
  have HT := Lib.hid hT
  have hts9 : t.size ≤ 100000000 := by omega
  have HTS := Lib.hid hts
  obtain ⟨R, hR⟩ : ∃ R, backP (bl t) = R := ⟨_, rfl⟩
  have HR := Lib.hid hR
  have HTT := Lib.hid ht
  clear hT hg0 hgl hf hl hVt ht hts hR HV
  go_enter Tryd.func36, Tryd.ntmps36
  go_wp2_with fail
  rw [HTT.out]
  clear hq hq2 hil hcut hd HTT
  go_loopw [4, 6, 34, 45, 92] (fun v4 v6 _ _ _ wr => ∃ (i : Nat) (b : List UInt8), v6 = .int .i64 i ∧ i ≤ t.size ∧ b.length ≤ i ∧ Own wr w.heap.size v4 b ∧ Below w.heap.size w wr ∧ b ++ backP ((bl t).drop i) = R) (fun _ v6 _ _ _ _ => t.size - (RowKit.intOf v6).toNat)
  case atStart => exact ⟨0, [], rfl, Nat.zero_le _, by simp, Own.nil_ _ _, Below.refl _ _, by rw [← HR.out]; rfl⟩
  case round =>
    obtain ⟨i, b, rfl, hit, hbi, hO, hB, hI⟩ := hrel
    have HI := Lib.hid hI
    have HO := Lib.hid hO
    clear hI hO
    by_cases hi : i < t.size
    · have hbd := bl_drop t i hi
      have H92 := Lib.hid (u8_eq_iff (t[i]'hi) 92 (by decide))
      have hlen : ((bl t).drop (i + 1)).length = t.size - (i + 1) := by rw [List.length_drop, bl_length]
      have hbc := backP_cons (t[i]'hi) ((bl t).drop (i + 1))
      rw [← hbd, hlen] at hbc
      have HBC := Lib.hid hbc
      clear hbd hbc hlen
      by_cases hc : (t[i]'hi) = 92
      case neg =>
        have hq : (((t[i]'hi).toNat : Int) != 92) = true := by
          simp
          intro h
          exact hc (H92.out.2 (by omega))
        have HX : Hid ((b ++ [(t[i]'hi)]) ++ backP ((bl t).drop (i + 1)) = R) := Lib.hid (by rw [← HI.out, HBC.out, if_pos hc]; simp)
        clear hc
        go_wp2_with (at_builtin; go_must (refine append_byte wr _ (t[i]'hi) rfl _ rfl _ _ rfl w.heap.size _ b rfl HO.out rfl (by omega) hB.size ?_); intro v2 w2 o2 g2 _)
        go_roundw
        case rel => exact ⟨i + 1, b ++ [(t[i]'hi)], by go_num, by omega, by rw [List.length_append, List.length_singleton]; omega, o2, Below.grown hB g2 hB.size (fun q hq => (HO.out.lt q hq).1), HX.out⟩
        case measure => simp [RowKit.intOf]; omega
      have hq : (((t[i]'hi).toNat : Int) != 92) = false := by have := H92.out.1 hc; simp; omega
      have hbc2 := HBC.out
      rw [if_neg (by simp [hc])] at hbc2
      have HBC2 := Lib.hid hbc2
      clear hbc2 HBC hc
      have hA : i + 3 < t.size ∧ (∃ h1 : i + 1 < t.size, t[i + 1] = 120) ∧ (∃ h2 : i + 2 < t.size, 0 ≤ figI t[i + 2]) ∧ (∃ h3 : i + 3 < t.size, 0 ≤ figI t[i + 3]) ∨ ¬ (i + 3 < t.size ∧ (∃ h1 : i + 1 < t.size, t[i + 1] = 120) ∧ (∃ h2 : i + 2 < t.size, 0 ≤ figI t[i + 2]) ∧ (∃ h3 : i + 3 < t.size, 0 ≤ figI t[i + 3])) := Classical.em _
      rcases hA with ⟨h3, ⟨h1, hx1⟩, ⟨_, hx2⟩, ⟨_, hx3⟩⟩ | hno
      · have hi1 := fun w => index_at t (i + 1) (by omega) w
        have hi2 := fun w => index_at t (i + 2) (by omega) w
        have hi3 := fun w => index_at t (i + 3) (by omega) w
        rw [show ((i + 1 : Nat) : Int) = (i : Int) + 1 by omega] at hi1
        rw [show ((i + 2 : Nat) : Int) = (i : Int) + 2 by omega] at hi2
        rw [show ((i + 3 : Nat) : Int) = (i : Int) + 3 by omega] at hi3
        have hb2 := HBC2.out
        rw [getD_at t (i + 1) 0 (by omega), getD_at t (i + 1) 1 (by omega), getD_at t (i + 1) 2 (by omega), if_pos ⟨by omega, hx1, hx2, hx3⟩, List.drop_drop] at hb2
        have hq120 : ((t[i + 1].toNat : Int) == 120) = true := u8_is _ 120 (by decide) hx1
        obtain ⟨x2, hxx2⟩ : ∃ x, t[i + 2] = x := ⟨_, rfl⟩
        obtain ⟨x3, hxx3⟩ : ∃ x, t[i + 3] = x := ⟨_, rfl⟩
        have hb3 : backP ((bl t).drop i) = UInt8.ofNat (16 * figI x2 + figI x3).toNat :: backP ((bl t).drop (i + 4)) := by
          rw [← hxx2, ← hxx3, hb2]
        have HX : Hid ((b ++ [UInt8.ofNat (16 * figI x2 + figI x3).toNat]) ++ backP ((bl t).drop (i + 4)) = R) := Lib.hid (by rw [← HI.out, hb3]; simp)
        rw [hxx2] at hi2 hx2
        rw [hxx3] at hi3 hx3
        have F2 := Lib.hid (runes_figure x2)
        have F3 := Lib.hid (runes_figure x3)
        have hle2 := figI_le x2
        have hle3 := figI_le x3
        obtain ⟨f2, hf2⟩ : ∃ f, figI x2 = f := ⟨_, rfl⟩
        obtain ⟨f3, hf3⟩ : ∃ f, figI x3 = f := ⟨_, rfl⟩
        rw [hf2] at F2 hx2 hle2
        rw [hf3] at F3 hx3 hle3
        rw [hf2, hf3] at HX
        clear hb2 hb3 hf2 hf3 hxx2 hxx3 hx1 HBC2
        have hd3 : decide ((i : Int) + 3 < (t.size : Int)) = true := by simp; omega
        go_wp2_with fail
        refine (F2.out _).mono ?_
        rintro e w2 ⟨rfl, rfl⟩
        go_wp2_with fail
        refine (F3.out _).mono ?_
        rintro e w2 ⟨rfl, rfl⟩
        go_upto_region 11 with fail
        have HWa : Hid (IntKind.i64.wrap ((i : Int) + 2) = (i : Int) + 2) := Lib.hid (by rw [IntKind.wrap_i64]; omega)
        have HWb : Hid (IntKind.i64.wrap ((i : Int) + 3) = (i : Int) + 3) := Lib.hid (by rw [IntKind.wrap_i64]; omega)
        have HWc : Hid (IntKind.i64.wrap (16 * f2) = 16 * f2) := Lib.hid (by rw [IntKind.wrap_i64]; omega)
        have HWd : Hid (IntKind.i64.wrap (16 * f2 + f3) = 16 * f2 + f3) := Lib.hid (by rw [IntKind.wrap_i64]; omega)
        have HU8 : Hid (IntKind.u8.wrap (16 * f2 + f3) = 16 * f2 + f3) := Lib.hid (by
          have h : IntKind.u8.wrap (16 * f2 + f3) = (16 * f2 + f3) % 256 := rfl
          rw [h]
          omega)
        have HVB : Hid (Value.int .u8 (16 * f2 + f3) = vb (UInt8.ofNat (16 * f2 + f3).toNat)) := Lib.hid (by
          unfold vb
          rw [UInt8.toNat_ofNat', Nat.mod_eq_of_lt (by omega), Int.toNat_of_nonneg (by omega)])
        refine wp_region_mixDk (M := []) (fun _ => False) [0, 1, 2, 3, 4, 7, 8, 9, 10, 5, 6, 11, 12, 13, 14, 15, 16] (by kernel_rfl) (by kernel_rfl) ?_
        iterate 4 (refine mix_calmDk rfl rfl ?_; go_big_quiet_step (fail); refine wpQuiet_nil ?_)
        try rw [HWa.out]
        iterate 4 (refine mix_calmDk rfl rfl ?_; go_big_quiet_step (fail); refine wpQuiet_nil ?_)
        try rw [HWb.out]
        iterate 1 (refine mix_calmDk rfl rfl ?_; go_big_quiet_step (fail); refine wpQuiet_nil ?_)
        refine mix_loudDk rfl (by kernel_rfl) rfl ?_
        intro K1 hK1
        have HK := Lib.hid hK1
        clear hK1 
        go_wp2_with fail
        refine (F2.out wr.drew).mono ?_
        rintro x w2 ⟨rfl, rfl⟩
        go_wp2_with fail
        refine HK.out _ _ (Stand.refl _ _) ?_
        clear HK
        iterate 1 (refine mix_calmDk rfl rfl ?_; go_big_quiet_step (fail); refine wpQuiet_nil ?_)
        try rw [HWc.out]
        refine mix_loudDk rfl (by kernel_rfl) rfl ?_
        intro K1 hK1
        have HK := Lib.hid hK1
        clear hK1 
        go_wp2_with fail
        refine (F3.out wr.drew).mono ?_
        rintro x w2 ⟨rfl, rfl⟩
        go_wp2_with fail
        refine HK.out _ _ (Stand.refl _ _) ?_
        clear HK
        iterate 1 (refine mix_calmDk rfl rfl ?_; go_big_quiet_step (fail); refine wpQuiet_nil ?_)
        try rw [HWd.out]
        iterate 1 (refine mix_calmDk rfl rfl ?_; go_big_quiet_step (fail); refine wpQuiet_nil ?_)
        try rw [HU8.out]
        refine mix_loudDk rfl (by kernel_rfl) rfl ?_
        intro K1 hK1
        have HK := Lib.hid hK1
        clear hK1 
        go_wp2_with fail
        refine HK.out _ _ ((Stand.refl _ _).alloc _) ?_
        clear HK
        have hWa9 : w.heap.size ≤ (wr.drew.alloc (.cells #[.int .u8 (16 * f2 + f3)] 5)).heap.size := Nat.le_trans (show w.heap.size ≤ wr.drew.heap.size from hB.size) (by simp)
        refine mix_loudDk rfl (by kernel_rfl) rfl ?_
        intro K1 hK1
        have HK := Lib.hid hK1
        clear hK1 
        go_wp2_with (at_builtin; go_must (refine append_bytes (wr.drew.alloc (.cells #[.int .u8 (16 * f2 + f3)] 5)) rfl _ _ rfl w.heap.size _ b rfl (HO.out.alloc _) _ 1 1 [UInt8.ofNat (16 * f2 + f3).toNat] rfl (reads_one _ _ _ _ HVB.out) (by omega) hWa9 ?_); intro v3 w3 o3 g3 _)
        have HG3 := Lib.hid g3
        clear g3
        refine HK.out _ _ (Stand.of_grown HG3.out (fun _ _ h => h)) ?_
        clear HK
        iterate 1 (refine mix_calmDk rfl rfl ?_; go_big_quiet_step (fail); refine wpQuiet_nil ?_)
        refine mix_endDk ?_
        have hB3 := Below.grown ((below_drewN hB 1).alloc (show w.heap.size ≤ wr.drew.heap.size from hB.size) (.cells #[.int .u8 (16 * f2 + f3)] 5)) HG3.out hWa9 (fun q hq => (HO.out.lt q hq).1)
        go_wp2_with fail
        go_roundw
        case rel => exact ⟨i + 4, _, by go_num, by omega, by rw [List.length_append, List.length_singleton]; omega, o3, hB3, HX.out⟩
        case measure => simp [RowKit.intOf]; omega
      · by_cases hl1 : i + 1 < t.size
        · have hi1 := fun w => index_at t (i + 1) (by omega) w
          rw [show ((i + 1 : Nat) : Int) = (i : Int) + 1 by omega] at hi1
          have hb2 := HBC2.out
          rw [if_neg (by
            rintro ⟨g1, g2, g3, g4⟩
            rw [getD_at t (i + 1) 0 (by omega)] at g2
            rw [getD_at t (i + 1) 1 (by omega)] at g3
            rw [getD_at t (i + 1) 2 (by omega)] at g4
            exact hno ⟨by omega, ⟨by omega, g2⟩, ⟨by omega, g3⟩, ⟨by omega, g4⟩⟩), if_pos (by omega), getD_at t (i + 1) 0 (by omega), List.drop_drop] at hb2
          have HX : Hid ((b ++ [t[i + 1]]) ++ backP ((bl t).drop (i + 2)) = R) := Lib.hid (by rw [← HI.out, hb2]; simp)
          have hd4 : decide ((i : Int) + 1 < (t.size : Int)) = true := by simp; omega
          clear hb2 HBC2
          by_cases h3 : i + 3 < t.size
          case' neg =>
            have hd3 : decide ((i : Int) + 3 < (t.size : Int)) = false := by simp; omega
            go_upto_region 13 with fail
          case' pos =>
            have hd3 : decide ((i : Int) + 3 < (t.size : Int)) = true := by simp; omega
            by_cases hx1 : t[i + 1] = 120
            case' neg =>
              have hq120 : ((t[i + 1].toNat : Int) == 120) = false := u8_ne _ 120 (by decide) hx1
              clear hx1 hno
              go_upto_region 13 with fail
            case' pos =>
              have hq120 : ((t[i + 1].toNat : Int) == 120) = true := u8_is _ 120 (by decide) hx1
              have hi2 := fun w => index_at t (i + 2) (by omega) w
              have hi3 := fun w => index_at t (i + 3) (by omega) w
              rw [show ((i + 2 : Nat) : Int) = (i : Int) + 2 by omega] at hi2
              rw [show ((i + 3 : Nat) : Int) = (i : Int) + 3 by omega] at hi3
              have F2 := Lib.hid (runes_figure t[i + 2])
              have F3 := Lib.hid (runes_figure t[i + 3])
              by_cases hx2 : 0 ≤ figI t[i + 2]
              case' neg =>
                have hle2 := figI_le t[i + 2]
                have hf2 : figI t[i + 2] = -1 ∨ figI t[i + 2] < 0 := by omega
                generalize figI t[i + 2] = f2 at *
                have hdf2 : decide (0 ≤ f2) = false := by simp; omega
                clear hx1 hno hf2
                go_wp2_with fail
                refine (F2.out _).mono ?_
                rintro e w2 ⟨rfl, rfl⟩
                go_upto_region 13 with fail
              case' pos =>
                have hx3 : ¬ 0 ≤ figI t[i + 3] := fun h => hno ⟨by omega, ⟨by omega, hx1⟩, ⟨by omega, hx2⟩, ⟨by omega, h⟩⟩
                clear hno hx1
                generalize figI t[i + 2] = f2 at *
                generalize figI t[i + 3] = f3 at *
                have hdf2 : decide (0 ≤ f2) = true := by simp; omega
                have hdf3 : decide (0 ≤ f3) = false := by simp; omega
                go_wp2_with fail
                refine (F2.out _).mono ?_
                rintro e w2 ⟨rfl, rfl⟩
                go_wp2_with fail
                refine (F3.out _).mono ?_
                rintro e w2 ⟨rfl, rfl⟩
                go_upto_region 13 with fail
          all_goals
            go_wp2_with (at_builtin; go_must (refine append_byte wr _ t[i + 1] rfl _ rfl _ _ rfl w.heap.size _ b rfl HO.out rfl (by omega) hB.size ?_); intro v3 w3 o3 g3 _)
            go_roundw
            case rel => exact ⟨i + 2, _, by go_num, by omega, by rw [List.length_append, List.length_singleton]; omega, o3, Below.grown hB g3 hB.size (fun q hq => (HO.out.lt q hq).1), HX.out⟩
            case measure => simp [RowKit.intOf]; omega
        · have hd3 : decide ((i : Int) + 3 < (t.size : Int)) = false := by simp; omega
          have hd4 : decide ((i : Int) + 1 < (t.size : Int)) = false := by simp; omega
          have HX : Hid (b ++ backP ((bl t).drop (i + 1)) = R) := Lib.hid (by
            have hb2 := HBC2.out
            rw [if_neg (by omega), if_neg (by omega)] at hb2
            rw [← HI.out, hb2, List.drop_of_length_le (by rw [bl_length]; omega)]
            rfl)
          clear HBC2 hno
          go_wp2_with fail
          go_roundw
          case rel => exact ⟨i + 1, b, by go_num, by omega, by omega, HO.out, hB, HX.out⟩
          case measure => simp [RowKit.intOf]; omega
    · have hie : i = t.size := by omega
      have hbR : b = R := by
        have := HI.out
        rw [List.drop_of_length_le (by rw [bl_length]; omega), backP_nil, List.append_nil] at this
        exact this
      subst hbR
      obtain ⟨A4, c4, rfl, _, r4⟩ := HO.out.reads
      have hcv1 := run_string_of wr wr.heap.size A4 b.length c4 b r4
      have HR4 := Lib.hid r4
      have hb9 : (⟨b.toArray⟩ : ByteArray).size ≤ 100000000 := by
        show b.toArray.size ≤ _
        simp
        omega
      have HQ := Lib.hid (runes_Quote ⟨b.toArray⟩ (by omega) wr (HT.out.below hB))
      clear hie r4
      go_wp2_with fail
      refine HQ.out.mono ?_
      clear HQ
      rintro e w2 ⟨rfl, b2⟩
      replace hB := hB.trans (b2.mono hB.size)
      have hcv2 := run_string_of w2 wr.heap.size A4 b.length c4 b (HR4.out.below b2)
      obtain ⟨Q, hQ⟩ : ∃ Q, quoteP ⟨b.toArray⟩ = Q := ⟨_, rfl⟩
      rw [hQ]
      rw [HR.out, hQ] at HVT
      clear hQ hcv1
      by_cases hqq : Q = bl s
      · have hsq : (⟨Q.toArray⟩ : ByteArray) = s := by rw [hqq]; exact (bl_is s).symm
        have hne : (Q == s.toList) = true := by rw [Lib.toList_data]; exact beq_iff_eq.2 hqq
        have hne2 : (!(Q == s.toList)) = false := by rw [hne]; rfl
        have HV : Hid (V = .tuple #[.string ⟨b.toArray⟩, .int .i64 0]) := Lib.hid (by rw [HVT.out, if_pos hqq])
        clear hqq hsq
        go_wp2_with fail
        go_ret2
        exact ⟨by rw [HV.out]; rfl, hB⟩
      · have hsq : ¬ (⟨Q.toArray⟩ : ByteArray) = s := fun e => hqq (by rw [← e]; rfl)
        have hne : (Q == s.toList) = false := by rw [Lib.toList_data]; exact beq_eq_false_iff_ne.2 hqq
        have hne2 : (!(Q == s.toList)) = true := by rw [hne]; rfl
        have HV : Hid (V = .tuple #[.string ⟨#[]⟩, .int .i64 10]) := Lib.hid (by rw [HVT.out, if_neg hqq])
        clear hqq hsq
        go_wp2_with fail
        go_ret2
        exact ⟨by rw [HV.out]; rfl, hB⟩
end Go.Proofs.YtimmfcbpdnlfjaaDoor
