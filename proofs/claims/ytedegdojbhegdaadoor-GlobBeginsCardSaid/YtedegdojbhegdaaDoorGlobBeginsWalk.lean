/- The walk of the law GlobBegins: it returns true, and nothing that was there ahead of the call has turned. Condition: the tables of unicode/utf8 lie as they are laid. -/
import Derived.Test.YtedegdojbhegdaaDoorGloN
namespace Go.Proofs.YtedegdojbhegdaaDoor
open Go.RowKit Go.Sort

/-- What is told and is a text of runes begins with what the pattern begins with. -/
theorem begins {P : List Part} {t : ByteArray} (hm : matchP P (rest t 0) = true) (hv : validV t = true) : (strE (aheadP P)).size ≤ t.size ∧ t.extract 0 (strE (aheadP P)).size = strE (aheadP P) := by
  obtain ⟨U, hU⟩ := ahead_prefix hm
  have hb := validV_true hv
  rw [hU, encs_append] at hb
  have hl : (strE (aheadP P)).size = (encs (aheadP P)).length := by rw [size_bl]; rfl
  refine ⟨?_, ?_⟩
  · rw [hl, size_bl t, hb, List.length_append]
    omega
  · apply strE_of
    rw [bl_extract, List.drop_zero, hb, hl, List.take_left]
theorem whole_rest (a b c : ByteArray) (R0 R1 R2 : List Nat) (h0 : ∀ r ∈ R0, Sc r) (h1 : ∀ r ∈ R1, Sc r) (h2 : ∀ r ∈ R2, Sc r) (ha : a = strE R0) (hb : b = strE R1) (hc : c = strE R2) : rest (a ++ b ++ c) 0 = R0 ++ R1 ++ R2 := by
  refine rest_enc _ _ ?_ ?_
  · intro r hr
    rcases List.mem_append.1 hr with hr | hr
    · rcases List.mem_append.1 hr with hr | hr
      · exact h0 r hr
      · exact h1 r hr
    · exact h2 r hr
  · rw [bl_append, bl_append, ha, hb, hc, bl_strE, bl_strE, bl_strE, encs_append, encs_append]

theorem five_ways (a b c d e : Bool) : a = true ∨ (a = false ∧ b = true) ∨ (a = false ∧ b = false ∧ c = true) ∨ (a = false ∧ b = false ∧ c = false ∧ d = true) ∨ (a = false ∧ b = false ∧ c = false ∧ d = false ∧ e = true) ∨ (a = false ∧ b = false ∧ c = false ∧ d = false ∧ e = false) := by
  cases a <;> cases b <;> cases c <;> cases d <;> cases e <;> simp

set_option maxRecDepth 100000 in
set_option maxHeartbeats 4000000 in
theorem glob_begins_walk (w : World) (hT : Tabs w) (s : ByteArray) (hs : s.size ≤ maxLen) (t0 t1 t2 : ByteArray) (h0 : t0.size ≤ maxLen) (h1 : t1.size ≤ maxLen) (h2 : t2.size ≤ maxLen) :
    Calls Tryd.prog 7 #[.string s, .agg #[.string t0, .string t1, .string t2]] w fun e w' => e = .returned (.bool true) ∧ Below w.heap.size w w' := by
  unfold maxLen at hs h0 h1 h2
  have BT := Blk.new w 40 #[.string t0, .string t1, .string t2]
  have hB : Below w.heap.size w (w.alloc (.cells #[.string t0, .string t1, .string t2] 40)) := (Below.refl _ _).alloc (Nat.le_refl _) _
  have c0 := BT.cell 0
  have c1 := BT.cell 1
  have c2 := BT.cell 2
  have hlt := BT.lt
  have HT := Lib.hid hT
  clear hT
  go_enter Tryd.func7, Tryd.ntmps7
  go_upto_region 1 with fail
  generalize w.alloc (.cells #[.string t0, .string t1, .string t2] 40) = W at *
  go_cut [41] from 11 to 124 (fun s41 wx => wx = W ∧ (s41 = .bool true ∨ (s41 = .bool false ∧ s.size ≤ 90 ∧ t0.size ≤ 200 ∧ t1.size ≤ 200 ∧ t2.size ≤ 200)))
  case first =>
    rcases five_ways (decide (90 < (s.size : Int))) (decide (200 < wrap64 ((t0.size : Int) + t1.size))) (decide (200 < (t1.size : Int))) (decide (200 < (t2.size : Int))) (decide (200 < (t0.size : Int))) with d1 | ⟨d1, d2⟩ | ⟨d1, d2, d3⟩ | ⟨d1, d2, d3, d4⟩ | ⟨d1, d2, d3, d4, d5⟩ | ⟨d1, d2, d3, d4, d5⟩
    all_goals
      go_wp2_with fail
      go_meet
      case rel => exact ⟨rfl, by first | exact .inl rfl | exact .inr ⟨rfl, by simp at d1; omega, by simp at d5; omega, by simp at d3; omega, by simp at d4; omega⟩⟩
  case rest =>
  obtain ⟨rfl, hq⟩ := hcut
  rcases hq with rfl | ⟨rfl, hs90, h0, h1, h2⟩
  · go_wp2_with fail
    go_ret
    exact ⟨rfl, hB⟩
  have HN := Lib.hid (glob_New s hs wc (HT.out.below hB))
  go_wp2_with fail
  refine HN.out.mono ?_
  clear HN c0 c1 c2
  rintro x w1 ⟨b1, hN1⟩
  replace BT := BT.below b1 hlt
  have hB1 := hB.trans (b1.mono hB.size)
  have hlt1 := Nat.lt_of_lt_of_le hlt b1.size
  obtain ⟨q, hq⟩ : ∃ q : ByteArray, (⟨#[42]⟩ ++ s) ++ ⟨#[42]⟩ = q := ⟨_, rfl⟩
  have hbq : bl q = [42] ++ bl s ++ [42] := by
    rw [← hq, bl_append, bl_append]
    rfl
  have hpa := pat_around s q hbq hs90
  have hqs : q.size ≤ 92 := by
    rw [size_bl, hbq]
    have := bl_length s
    simp
    omega
  have HQE := Lib.hid hq
  have HPA := Lib.hid hpa
  have HT1 := HT
  clear hq hbq hpa hB b1 hlt
  rcases hN1 with ⟨hp, rfl⟩ | ⟨A, n, c, L, hp, rfl, hn, hnc, hpr⟩
  · replace BT := BT.alloc (.cells #[.slice none 0 0, .string ⟨#[]⟩] 35)
    replace hB1 := hB1.alloc hB1.size (.cells #[.slice none 0 0, .string ⟨#[]⟩] 35)
    have HN := Lib.hid (glob_New q (by omega) (w1.alloc (.cells #[.slice none 0 0, .string ⟨#[]⟩] 35)) (HT.out.below hB1))
    have hpq : patP q = none := by rw [HPA.out, hp]; rfl
    clear hp
    go_wp2_with fail
    rw [HQE.out]
    refine HN.out.mono ?_
    clear HN
    rintro x w2 ⟨b2, ⟨_, rfl⟩ | ⟨_, _, _, _, hx, _⟩⟩
    · replace hB1 := hB1.trans (b2.mono hB1.size)
      replace hB1 := hB1.alloc hB1.size (.cells #[.slice none 0 0, .string ⟨#[]⟩] 35)
      have HA := Lib.hid (alive38 (w2.alloc (.cells #[.slice none 0 0, .string ⟨#[]⟩] 35)) (HT.out.below hB1))
      clear hpq b2
      go_wp2_with fail
      refine HA.out.mono ?_
      rintro x w4 ⟨rfl, b4⟩
      replace hB1 := hB1.trans (b4.mono hB1.size)
      clear b4 HA
      go_wp2_with fail
      go_ret
      exact ⟨rfl, hB1⟩
    · rw [hpq] at hx
      cases hx
  have hsh := pat_short hp
  rw [List.length_map, ← hn] at hsh
  have hn1000 : n ≤ 1000 := by omega
  have hpq : patP q = some (⟨3, []⟩ :: (L.map PS.p ++ [⟨3, []⟩])) := by rw [HPA.out, hp]; rfl
  have hx1 : Below w1.heap.size w1 (w1.alloc (.cells #[.slice A n c, .string s] 35)) := (Below.refl _ _).alloc (Nat.le_refl _) _
  have BPp := Blk.new w1 35 #[.slice A n c, .string s]
  have HP := Lib.hid ((hpr.below hx1).more hx1.size)
  replace BT := BT.alloc (.cells #[.slice A n c, .string s] 35)
  replace hB1 := hB1.trans (hx1.mono hB1.size)
  have HN := Lib.hid (glob_New q (by omega) (w1.alloc (.cells #[.slice A n c, .string s] 35)) (HT.out.below hB1))
  have HPQ := Lib.hid hpq
  have HPP := Lib.hid hp
  clear hp hpq hpr hn hx1 hsh
  go_wp2_with fail
  rw [HQE.out]
  have hgp := BPp.lt
  have hgt := BT.lt
  generalize w1.alloc (.cells #[.slice A n c, .string s] 35) = W1 at *
  refine HN.out.mono ?_
  clear HN
  rintro x w2 ⟨b2, ⟨hx, _⟩ | ⟨A2, n2, c2, L2, hq2, rfl, hn2, hnc2, hpr2⟩⟩
  · rw [HPQ.out] at hx
    cases hx
  rw [HPQ.out] at hq2
  injection hq2 with hq2
  have hn21000 : n2 ≤ 1000 := by
    have h9 := congrArg List.length hq2
    simp at h9
    have := (pat_short HPP.out).1
    rw [List.length_map] at this
    omega
  have BPq := Blk.new w2 35 #[.slice A2 n2 c2, .string q]
  have hx2 : Below w2.heap.size w2 (w2.alloc (.cells #[.slice A2 n2 c2, .string q] 35)) := (Below.refl _ _).alloc (Nat.le_refl _) _
  have b23 := b2.trans (hx2.mono b2.size)
  have HP2 := Lib.hid ((HP.out.below b23).more b23.size)
  have HQ2 := Lib.hid ((hpr2.below hx2).more hx2.size)
  replace BT := BT.below b23 hgt
  replace BPp := BPp.below b23 hgp
  replace hB1 := hB1.trans (b23.mono hB1.size)
  have HL2 := Lib.hid hq2.symm
  have hgp2 := Nat.lt_of_lt_of_le hgp b23.size
  have hgt2 := Nat.lt_of_lt_of_le hgt b23.size
  have hgq := BPq.lt
  have p0 := BPp.cell 0
  have p1 := BPp.cell 1
  have HA := Lib.hid (glob_Ahead A n c s L _ HP2.out hn1000)
  obtain ⟨a, ha⟩ : ∃ a, strE (aheadP (L.map PS.p)) = a := ⟨_, rfl⟩
  rw [ha] at HA
  have HAE := Lib.hid ha
  clear ha hq2 hn2 hnc2 hpr2 hx2 b23 b2 HP hgp hgt
  go_wp2_with fail
  generalize w2.alloc (.cells #[.slice A2 n2 c2, .string q] 35) = V at *
  refine HA.out.mono ?_
  clear HA p0 p1
  rintro x v1 ⟨rfl, b3⟩
  have HP3 := Lib.hid ((HP2.out.below b3).more b3.size)
  have HQ3 := Lib.hid ((HQ2.out.below b3).more b3.size)
  replace BT := BT.below b3 hgt2
  replace BPp := BPp.below b3 hgp2
  replace BPq := BPq.below b3 hgq
  replace hB1 := hB1.trans (b3.mono hB1.size)
  have hgp3 := Nat.lt_of_lt_of_le hgp2 b3.size
  have hgt3 := Nat.lt_of_lt_of_le hgt2 b3.size
  have hgq3 := Nat.lt_of_lt_of_le hgq b3.size
  have p0 := BPp.cell 0
  have p1 := BPp.cell 1
  have e1 := BT.cell 1
  have HM := Lib.hid (fun (w' : World) (h : PatR psL 4 w' w'.heap.size A n L) => glob_Match A n c s t1 L w' h hn1000)
  obtain ⟨M, hM⟩ : ∃ M, matchP (L.map PS.p) (rest t1 0) = M := ⟨_, rfl⟩
  rw [hM] at HM
  have HMM := Lib.hid hM
  clear hM b3 HP2 HQ2 hgp2 hgt2 hgq
  go_upto_region 8 with fail
  go_cut [97] from 11 to 124 (fun s97 wx => s97 = .bool false ∧ Below v1.heap.size v1 wx)
  case first =>
    go_wp2_with fail
    refine (HM.out v1 HP3.out).mono ?_
    clear HM
    rintro x v2 ⟨rfl, b4⟩
    have e2 : v2.cell? ⟨w.heap.size, 1, none⟩ = some (.string t1) := (BT.below b4 hgt3).cell 1
    clear e1 p0 p1
    cases M
    case' false =>
      go_wp2_with fail
      go_meet
      case rel => exact ⟨rfl, b4⟩
    case' true =>
      have hbg := begins (P := L.map PS.p) (t := t1) HMM.out
      rw [HAE.out] at hbg
      obtain ⟨V', hV⟩ : ∃ V', validV t1 = V' := ⟨_, rfl⟩
      rw [hV] at hbg
      have HV := Lib.hid (fun w' => law38_valid t1 (by omega) w')
      rw [hV] at HV
      clear hV
      by_cases hl : t1.size < a.size
      · have hVf : V' = false := by
          cases V' with
          | false => rfl
          | true => have := (hbg rfl).1; omega
        subst hVf
        clear hbg
        go_wp2_with fail
        refine (HV.out v2).mono ?_
        rintro x v3 ⟨rfl, b5⟩
        have b45 := b4.trans (b5.mono b4.size)
        have e3 : v3.cell? ⟨w.heap.size, 1, none⟩ = some (.string t1) := (BT.below b45 hgt3).cell 1
        go_wp2_with fail
        refine (HV.out v3).mono ?_
        rintro x v4 ⟨rfl, b6⟩
        go_wp2_with fail
        go_meet
        case rel => exact ⟨rfl, b45.trans (b6.mono b45.size)⟩
      · go_wp2_with fail
        refine (HV.out v2).mono ?_
        rintro x v3 ⟨rfl, b5⟩
        have b45 := b4.trans (b5.mono b4.size)
        have e3 : v3.cell? ⟨w.heap.size, 1, none⟩ = some (.string t1) := (BT.below b45 hgt3).cell 1
        cases V'
        case' false =>
          go_wp2_with fail
          go_meet
          case rel => exact ⟨rfl, b45⟩
        case' true =>
          have hex := (hbg rfl).2
          have hle := (hbg rfl).1
          have haa : (a.toList != a.toList) = false := by simp
          have hsl : ∀ w', (Instr.slice 9 (.string t1) none (some (.int .i64 (a.size : Int))) none).run Tryd.prog w' = .ok (.string a) w' := by
            intro w'
            have h9 := cut_mid (P := Tryd.prog) (t := 9) Tryd.underlying9 t1 0 a.size (Nat.zero_le _) hle w'
            rw [hex] at h9
            rw [← h9]
            rfl
          clear hbg hex
          go_wp2_with fail
          go_meet
          case rel => exact ⟨rfl, b45⟩
  case rest =>
  obtain ⟨rfl, b9⟩ := hcut
  have HP4 := Lib.hid ((HP3.out.below b9).more b9.size)
  have HQ4 := Lib.hid ((HQ3.out.below b9).more b9.size)
  replace BT := BT.below b9 hgt3
  replace BPp := BPp.below b9 hgp3
  replace BPq := BPq.below b9 hgq3
  replace hB1 := hB1.trans (b9.mono hB1.size)
  have hgp4 := Nat.lt_of_lt_of_le hgp3 b9.size
  have hgt4 := Nat.lt_of_lt_of_le hgt3 b9.size
  have hgq4 := Nat.lt_of_lt_of_le hgq3 b9.size
  clear b9 HP3 HQ3 hgp3 hgt3 hgq3 p0 p1 e1
  have hcv0 := conv_runes t0 (by omega)
  have hcv1 := conv_runes t1 (by omega)
  have hcv2 := conv_runes t2 (by omega)
  have hcb0 := conv_back t0
  have hcb1 := conv_back t1
  have hcb2 := conv_back t2
  have sz : ∀ t : ByteArray, t.size ≤ 200 → (strE (rest t 0)).size ≤ 800 := fun t ht => by
    rw [size_bl, bl_strE]
    have := encs_len (rest t 0)
    have := rest_length t 0
    omega
  have z0 := sz t0 h0
  have z1 := sz t1 h1
  have z2 := sz t2 h2
  obtain ⟨S0, hS0⟩ : ∃ S, strE (rest t0 0) = S := ⟨_, rfl⟩
  obtain ⟨S1, hS1⟩ : ∃ S, strE (rest t1 0) = S := ⟨_, rfl⟩
  obtain ⟨S2, hS2⟩ : ∃ S, strE (rest t2 0) = S := ⟨_, rfl⟩
  rw [hS0] at hcb0 z0
  rw [hS1] at hcb1 z1
  rw [hS2] at hcb2 z2
  obtain ⟨wh, hwh⟩ : ∃ x, S0 ++ S1 ++ S2 = x := ⟨_, rfl⟩
  have hrest : rest wh 0 = rest t0 0 ++ rest t1 0 ++ rest t2 0 := by
    rw [← hwh]
    exact whole_rest S0 S1 S2 _ _ _ (rest_sc t0 0) (rest_sc t1 0) (rest_sc t2 0) hS0.symm hS1.symm hS2.symm
  have HQM : Hid (M = true → matchP (L2.map PS.p) (rest wh 0) = true) := Lib.hid (fun h => by
    rw [HL2.out, hrest]
    exact within (by rw [HMM.out]; exact h))
  have hzw : (S0 ++ S1).size ≤ 1600 := by rw [ByteArray.size_append]; omega
  have HWH := Lib.hid hwh
  have B0 := rnW_below t0 wc
  have B1 := rnW_below t1 (rnW t0 wc)
  have B2 := rnW_below t2 (rnW t1 (rnW t0 wc))
  have b9 : Below wc.heap.size wc (rnW t2 (rnW t1 (rnW t0 wc))) := (B0.trans (B1.mono B0.size)).trans (B2.mono (Nat.le_trans B0.size B1.size))
  have b01 := B0.trans (B1.mono B0.size)
  have e0 : wc.cell? ⟨w.heap.size, 0, none⟩ = some (.string t0) := BT.cell 0
  have e1 : (rnW t0 wc).cell? ⟨w.heap.size, 1, none⟩ = some (.string t1) := (BT.below B0 hgt4).cell 1
  have e2 : (rnW t1 (rnW t0 wc)).cell? ⟨w.heap.size, 2, none⟩ = some (.string t2) := (BT.below b01 hgt4).cell 2
  have e1' : (rnW t2 (rnW t1 (rnW t0 wc))).cell? ⟨w.heap.size, 1, none⟩ = some (.string t1) := (BT.below b9 hgt4).cell 1
  have p0 : (rnW t2 (rnW t1 (rnW t0 wc))).cell? ⟨w1.heap.size, 0, none⟩ = some (.slice A n c) := (BPp.below b9 hgp4).cell 0
  have p1 : (rnW t2 (rnW t1 (rnW t0 wc))).cell? ⟨w1.heap.size, 1, none⟩ = some (.string s) := (BPp.below b9 hgp4).cell 1
  have HB9 := Lib.hid b9
  clear hS0 hS1 hS2 hrest hwh sz B0 B1 B2 b01 b9
  go_wp2_with fail
  generalize rnW t2 (rnW t1 (rnW t0 wc)) = W9 at *
  refine (HM.out W9 ((HP4.out.below HB9.out).more HB9.out.size)).mono ?_
  clear HM p0 p1 e0 e1 e2 e1' hcv0 hcv1 hcv2 hcb0 hcb1 hcb2
  rintro x u1 ⟨rfl, b10⟩
  have b910 := HB9.out.trans (b10.mono HB9.out.size)
  have HQ5 := Lib.hid ((HQ4.out.below b910).more b910.size)
  replace BPq := BPq.below b910 hgq4
  replace hB1 := hB1.trans (b910.mono hB1.size)
  have p0 := BPq.cell 0
  have p1 := BPq.cell 1
  clear b10 b910 HB9 HP4 HQ4 BT BPp hgp4 hgt4 hgq4
  cases M
  case' false =>
    have HA := Lib.hid (alive38 u1 (HT.out.below hB1))
    go_wp2_with fail
    refine HA.out.mono ?_
  case' true =>
    have HQ6 := Lib.hid (glob_Match A2 n2 c2 q wh L2 u1 HQ5.out hn21000)
    rw [HQM.out (by first | rfl | trivial)] at HQ6
    go_wp2_with fail
    rw [HWH.out]
    refine HQ6.out.mono ?_
    rintro x u2 ⟨rfl, b11⟩
    replace hB1 := hB1.trans (b11.mono hB1.size)
    have HA := Lib.hid (alive38 u2 (HT.out.below hB1))
    clear p0 p1 HQ6 b11
    go_wp2_with fail
    refine HA.out.mono ?_
  all_goals
    rintro x u3 ⟨rfl, b12⟩
    replace hB1 := hB1.trans (b12.mono hB1.size)
    clear b12 HA
    go_wp2_with fail
    go_ret
    exact ⟨rfl, hB1⟩
end Go.Proofs.YtedegdojbhegdaaDoor
