/- The walk of the law GapsPuts: it returns true, and nothing that was there ahead of the call has turned. -/
import Derived.Test.YtfebncpfhdgkpaaGapsReadsWalk
import Derived.Test.YtfebncpfhdgkpaaOwnG
namespace Go.Proofs.Ytfebncpfhdgkpaa
open Go.RowKit Go.Sort

set_option maxRecDepth 100000 in
set_option maxHeartbeats 4000000 in
theorem gaps_puts_walk (w : World) (A0 : Option Addr) (n0 c0 : Nat) (l0 : List UInt8) (_ : n0 ≤ c0) (_ : c0 ≤ maxLen) (hl0 : l0.length = n0) (hr0 : Reads w w.heap.size 1 A0 n0 (l0.map vb)) (hA0 : A0 = none → c0 = 0)
    (A1 : Option Addr) (n1 c1 : Nat) (l1 : List Int) (_ : n1 ≤ c1) (_ : c1 ≤ maxLen) (hl1 : l1.length = n1) (hr1 : Reads w w.heap.size 1 A1 n1 (l1.map vi)) (_ : ∀ x ∈ l1, (Lit.int .i64 x).wf = true) (_ : A1 = none → c1 = 0)
    (A2 : Option Addr) (n2 c2 : Nat) (l2 : List UInt8) (_ : n2 ≤ c2) (_ : c2 ≤ maxLen) (hl2 : l2.length = n2) (hr2 : Reads w w.heap.size 1 A2 n2 (l2.map vb)) (_ : A2 = none → c2 = 0) :
    Calls Try.prog 10 #[.slice A0 n0 c0, .slice A1 n1 c1, .slice A2 n2 c2] w fun e w' => e = .returned (.bool true) ∧ Below w.heap.size w w' := by
  rename_i _ _ _ _ h11 h12 _ _ h22
  clear h11 h12 h22
  by_cases hbig : 300 < n1 ∨ 500 < n0 ∨ 500 < n2
  · have hd : decide (300 < (n1 : Int)) = true ∨ (decide (300 < (n1 : Int)) = false ∧ decide (500 < (n0 : Int)) = true) ∨ (decide (300 < (n1 : Int)) = false ∧ decide (500 < (n0 : Int)) = false ∧ decide (500 < (n2 : Int)) = true) := by simp; omega
    clear hl0 hl1 hl2 hA0
    rcases hd with h1 | ⟨h1, h2⟩ | ⟨h1, h2, h3⟩
    all_goals
      go_enter Try.func10, Try.ntmps10
      go_wp2_with fail
      go_ret
      exact ⟨rfl, Below.refl _ _⟩
  have d1 : decide (300 < (n1 : Int)) = false := by simp; omega
  have d2 : decide (500 < (n0 : Int)) = false := by simp; omega
  have d3 : decide (500 < (n2 : Int)) = false := by simp; omega
  have b0 : n0 ≤ 500 := by omega
  have b1 : n1 ≤ 300 := by omega
  have b2 : n2 ≤ 500 := by omega
  have hCl := Lib.hid (bytes_Clone A0 n0 c0 l0 w hr0 hA0 (by omega))
  have HR0 := Lib.hid hr0
  have HR1 := Lib.hid hr1
  have HR2 := Lib.hid hr2
  have HL0 := Lib.hid hl0
  have HL1 := Lib.hid hl1
  have HL2 := Lib.hid hl2
  have HA0 := Lib.hid hA0
  clear hr0 hr1 hr2 hl0 hl1 hl2 hA0 hbig
  go_enter Try.func10, Try.ntmps10
  go_wp2_with fail
  refine hCl.out.mono ?_
  rintro e w1 ⟨v1, rfl, O1, hB⟩
  clear hCl
  by_cases hR : Rise l1
  · have HRi := Lib.hid hR
    have hgl := gput_len l1 (by rw [HL1.out]; omega) hR
    have HGL := Lib.hid hgl
    clear hR hgl
    have hP := Lib.hid (gaps_Put_yes w.heap.size v1 l0 A1 n1 c1 l1 w1 O1 hB.size (by rw [HL0.out]; omega) (HR1.out.below hB) (by omega) HRi.out)
    go_wp2_with fail
    refine hP.out.mono ?_
    rintro e w2 ⟨v2, rfl, O2, G2, _⟩
    replace hB := below_own hB hB.size O1 (Nat.le_refl _) G2
    clear hP O1 G2
    obtain ⟨Ag, cg, rfl, _, RG⟩ := O2.reads
    obtain ⟨mg, hmg⟩ : ∃ m, (l0 ++ gput l1).length = m := ⟨_, rfl⟩
    rw [hmg] at RG ⊢
    have HMG := Lib.hid hmg
    clear O2 hmg
    go_wp2_with fail
    refine (law47_right_yes A1 n1 c1 l1 w2 _ (HR1.out.below hB) (by omega) HRi.out).mono ?_
    rintro e w3 ⟨rfl, b3⟩
    replace RG := (RG.below b3).more b3.size
    replace hB := hB.trans (b3.mono hB.size)
    clear b3
    go_wp2_with fail
    refine (law47_bytes A1 n1 c1 l1 w3 ((HR1.out.below hB).more hB.size) (by omega) HRi.out).mono ?_
    rintro e w4 ⟨v4, rfl, O4, b4⟩
    replace RG := (RG.below b4).more b4.size
    replace hB := hB.trans (b4.mono hB.size)
    clear b4
    obtain ⟨Aw, cw, rfl, hcw, hAw, RW⟩ := O4.reads_
    obtain ⟨mw, hmw⟩ : ∃ m, (gput l1).length = m := ⟨_, rfl⟩
    rw [hmw] at RW hcw ⊢
    have HMW := Lib.hid hmw
    have HAW := Lib.hid hAw
    clear O4 hmw hAw
    go_wp2_with fail
    refine (bytes_Clone A0 n0 c0 l0 w4 ((HR0.out.below hB).more hB.size) HA0.out (by omega)).mono ?_
    rintro e w5 ⟨v5, rfl, O5, b5⟩
    replace RG := RG.below b5
    replace RW := RW.below b5
    have hw5 := b5.size
    have hw4 := hB.size
    replace hB := hB.trans (b5.mono hB.size)
    clear b5
    go_wp2_with (at_builtin; refine append_bytes_g w5 rfl _ _ rfl w4.heap.size _ l0 rfl O5 Aw mw cw (gput l1) rfl (RW.more hw5) (by have := HL0.out; have := HMW.out; have := HGL.out; omega) hw5 ?_; intro v6 w6 O6 G6 L6)
    have hB6 := below_own hB hB.size O5 hw4 G6
    have RG6 := RG.grown G6 hw5 (fun x hx => (O5.lt x hx).1)
    have RW6 := RW.grown G6 hw5 (fun x hx => (O5.lt x hx).1)
    have hs6 := G6.size
    obtain ⟨A6, c6, rfl, _, _, RA6⟩ := O6.reads_
    rw [HMG.out] at RA6 ⊢
    clear O6 G6 L6 O5 RG RW hB
    have hE := bytes_Equal Ag A6 mg mg cg c6 (l0 ++ gput l1) (l0 ++ gput l1) w6 (RG6.more (by omega)) RA6 (by have h1 := HMG.out; have := HL0.out; have := HGL.out; rw [List.length_append] at h1; omega)
    rw [show decide (l0 ++ gput l1 = l0 ++ gput l1) = true by simp] at hE
    have HE := Lib.hid hE
    clear hE RG6 RA6
    go_wp2_with fail
    refine HE.out.mono ?_
    rintro e w7 ⟨rfl, b7⟩
    replace RW6 := RW6.below (b7.mono (by omega))
    replace hB6 := hB6.trans (b7.mono hB6.size)
    have hs7 := b7.size
    clear HE b7
    have hS := gaps_Size_yes A1 n1 c1 l1 w7 ((HR1.out.below hB6).more hB6.size) (by omega) HRi.out
    rw [HMW.out] at hS
    have HS := Lib.hid hS
    clear hS
    go_wp2_with fail
    refine HS.out.mono ?_
    rintro e w8 ⟨rfl, b8⟩
    replace RW6 := RW6.below (b8.mono (by omega))
    replace hB6 := hB6.trans (b8.mono hB6.size)
    have hs8 := b8.size
    clear HS b8
    go_wp2_with fail
    refine (bytes_Clone Aw mw cw (gput l1) w8 (RW6.more (by omega)) HAW.out (by have := HMW.out; have := HGL.out; omega)).mono ?_
    rintro e w9 ⟨v9, rfl, O9, b9⟩
    replace hB6 := hB6.trans (b9.mono hB6.size)
    have hs9 := b9.size
    have hw8 : w.heap.size ≤ w8.heap.size := by omega
    clear b9 RW6
    go_wp2_with (at_builtin; refine append_bytes w9 rfl _ _ rfl w8.heap.size _ (gput l1) rfl O9 A2 n2 c2 l2 rfl ((HR2.out.below hB6).more hB6.size) (by have := HMW.out; have := HGL.out; omega) hs9 ?_; intro v10 w10 O10 G10 L10)
    have hB10 := below_own hB6 hB6.size O9 hw8 G10
    obtain ⟨A10, c10, rfl, hc10, _, RA10⟩ := O10.reads_
    obtain ⟨m10, hm10⟩ : ∃ m, (gput l1 ++ l2).length = m := ⟨_, rfl⟩
    rw [hm10] at RA10 hc10 ⊢
    have hm10' : m10 ≤ 41000 := by have := HL2.out; have := HGL.out; rw [← hm10, List.length_append]; omega
    clear O10 G10 L10 O9 hB6 hm10
    go_wp2_with fail
    refine (wire_New A10 m10 c10 w10).mono ?_
    rintro e w11 ⟨rfl, rfl⟩
    have RD : Rd (w10.alloc (.cells #[.slice A10 m10 c10, .int .i64 0, .int .i64 0] 114)) w10.heap.size A10 m10 c10 (gput l1 ++ l2) 0 0 := ⟨Blk.new _ _ _, (RA10.alloc (Nat.le_refl _) _), Nat.zero_le _, by omega, hc10⟩
    have hw10 := hB10.size
    replace hB10 := hB10.alloc hB10.size (.cells #[.slice A10 m10 c10, .int .i64 0, .int .i64 0] 114)
    clear RA10
    generalize w10.alloc (.cells #[.slice A10 m10 c10, .int .i64 0, .int .i64 0] 114) = W at *
    generalize w10.heap.size = g at *
    have hG := Lib.hid (gaps_Get W g A10 m10 c10 (gput l1 ++ l2) 0 0 RD)
    clear RD
    go_wp2_with fail
    refine hG.out.mono ?_
    rintro e w12 ⟨v12, row, k', why', rfl, O12, R12, G12, hyes, hno⟩
    replace hB10 : Below w.heap.size w w12 := Below.grown hB10 G12 hB10.size (fun q hq => by injection hq with hq; omega)
    clear hG G12
    obtain ⟨A12, c12, rfl, _, _, RD12⟩ := O12.reads
    clear O12
    rw [List.drop_zero, rGet_gput l1 l2 (by rw [HL1.out]; omega) HRi.out] at hyes hno
    have hw0 : why' = 0 := by
      by_cases h9 : why' = 0
      · exact h9
      · have := (hno h9).2
        cases this
    subst hw0
    obtain ⟨hsome, _⟩ := hyes rfl
    simp only [Option.some.injEq, Prod.mk.injEq, Nat.sub_zero] at hsome
    obtain ⟨rfl, hk⟩ := hsome
    rw [HMW.out] at hk
    subst hk
    rw [HL1.out] at RD12 ⊢
    have hIE := ints_Equal A12 A1 n1 n1 c12 c1 l1 l1 w12 RD12 ((HR1.out.below hB10).more hB10.size) (by omega)
    rw [show decide (l1 = l1) = true by simp] at hIE
    have HIE := Lib.hid hIE
    clear hyes hno hIE RD12
    go_wp2_with fail
    refine HIE.out.mono ?_
    rintro e w13 ⟨rfl, b13⟩
    replace R12 := R12.below b13
    replace hB10 := hB10.trans (b13.mono hB10.size)
    clear b13 HIE
    go_wp2_with fail
    refine (reader_Why _ g _ m10 c10 _ _ 0 R12).mono ?_
    rintro e w14 ⟨rfl, rfl⟩
    go_wp2_with fail
    refine (reader_At _ g _ m10 c10 _ _ 0 R12).mono ?_
    rintro e w14 ⟨rfl, rfl⟩
    go_wp2_with fail
    refine (alive47 _).mono ?_
    rintro e w15 ⟨rfl, b15⟩
    go_wp2_with fail
    go_ret
    exact ⟨rfl, hB10.trans (b15.mono hB10.size)⟩
  · have hno : ¬ (n1 ≤ 4096 ∧ Rise l1) := fun h => hR h.2
    have HNO := Lib.hid hno
    clear hR hno
    go_wp2_with fail
    refine (gaps_Put_no v1 A1 n1 c1 l1 w1 _ (HR1.out.below hB) (by omega) HNO.out).mono ?_
    rintro e w2 ⟨rfl, rfl⟩
    obtain ⟨A9, c9, rfl, _, _, RV⟩ := O1.reads_
    rw [HL0.out] at RV ⊢
    clear O1
    go_wp2_with fail
    refine (law47_right_no A1 n1 c1 l1 w1 _ (HR1.out.below hB) (by omega) HNO.out).mono ?_
    rintro e w3 ⟨rfl, b3⟩
    replace RV := (RV.below b3).more b3.size
    replace hB := hB.trans (b3.mono hB.size)
    clear b3
    have hE := bytes_Equal A9 A0 n0 n0 c9 c0 l0 l0 w3 RV ((HR0.out.below hB).more hB.size) (by omega)
    rw [show decide (l0 = l0) = true by simp] at hE
    have HE := Lib.hid hE
    clear hE RV
    go_wp2_with fail
    refine HE.out.mono ?_
    rintro e w4 ⟨rfl, b4⟩
    replace hB := hB.trans (b4.mono hB.size)
    clear b4
    go_wp2_with fail
    refine (gaps_Size_no A1 n1 c1 l1 w4 _ (HR1.out.below hB) (by omega) HNO.out).mono ?_
    rintro e w5 ⟨rfl, b5⟩
    replace hB := hB.trans (b5.mono hB.size)
    clear b5
    go_wp2_with fail
    refine (alive47 _).mono ?_
    rintro e w6 ⟨rfl, b6⟩
    go_wp2_with fail
    go_ret
    exact ⟨rfl, hB.trans (b6.mono hB.size)⟩
end Go.Proofs.Ytfebncpfhdgkpaa
