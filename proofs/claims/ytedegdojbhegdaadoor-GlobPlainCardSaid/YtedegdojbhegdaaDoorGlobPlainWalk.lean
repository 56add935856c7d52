/- The walk of the law GlobPlain: it returns true, and nothing that was there ahead of the call has turned. Condition: the tables of unicode/utf8 lie as they are laid. -/
import Derived.Test.YtedegdojbhegdaaDoorGlobMatchesWalk
namespace Go.Proofs.YtedegdojbhegdaaDoor
open Go.RowKit Go.Sort

theorem ahead_rest {s : ByteArray} {P : List Part} (h : patP s = some P) : rest (strE (aheadP P)) 0 = aheadP P := by
  unfold patP at h
  split at h
  · cases h
  · exact rest_enc _ _ (fun r hr => rest_sc s 0 r (ahead_mem h r hr)) rfl

set_option maxRecDepth 100000 in
set_option maxHeartbeats 2000000 in
theorem glob_plain_walk (w : World) (hT : Tabs w) (s : ByteArray) (hs : s.size ≤ maxLen) : Calls Tryd.prog 6 #[.string s] w fun e w' => e = .returned (.bool true) ∧ Below w.heap.size w w' := by
  unfold maxLen at hs
  have HT := Lib.hid hT
  have HN := Lib.hid (glob_New s hs w hT)
  clear hT
  go_enter Tryd.func6, Tryd.ntmps6
  go_wp2_with fail
  refine HN.out.mono ?_
  clear HN
  rintro x w1 ⟨hB, ⟨hp, rfl⟩ | ⟨A, n, c, L, hp, rfl, hn, hnc, hpr⟩⟩
  · replace hB := hB.alloc hB.size (.cells #[.slice none 0 0, .string ⟨#[]⟩] 35)
    have HR := Lib.hid (ref38_Right s hs (w1.alloc (.cells #[.slice none 0 0, .string ⟨#[]⟩] 35)) (HT.out.below hB))
    rw [hp] at HR
    clear hp
    go_wp2_with fail
    refine HR.out.mono ?_
    clear HR
    rintro x w2 ⟨rfl, b2⟩
    replace hB := hB.trans (b2.mono hB.size)
    simp only [Option.isSome_none]
    clear b2
    have HA := Lib.hid (alive38 w2 (HT.out.below hB))
    go_wp2_with fail
    refine HA.out.mono ?_
    rintro x w4 ⟨rfl, b4⟩
    replace hB := hB.trans (b4.mono hB.size)
    clear b4 HA
    go_wp2_with fail
    go_ret
    exact ⟨rfl, hB⟩
  have hsh := pat_short hp
  rw [List.length_map, ← hn] at hsh
  have hn1000 : n ≤ 1000 := by omega
  have HPT := Lib.hid hp
  have BP := Blk.new w1 35 #[.slice A n c, .string s]
  have hB1 : Below w1.heap.size w1 (w1.alloc (.cells #[.slice A n c, .string s] 35)) := (Below.refl _ _).alloc (Nat.le_refl _) _
  have HP := Lib.hid ((hpr.below hB1).more hB1.size)
  replace hB := hB.trans (hB1.mono hB.size)
  have HR := Lib.hid (ref38_Right s hs (w1.alloc (.cells #[.slice A n c, .string s] 35)) (HT.out.below hB))
  rw [hp] at HR
  have hg := BP.lt
  clear hp hpr hn hB1 hsh
  go_wp2_with fail
  refine HR.out.mono ?_
  clear HR
  rintro x w2 ⟨rfl, b2⟩
  have HP2 := Lib.hid ((HP.out.below b2).more b2.size)
  replace BP := BP.below b2 hg
  replace hB := hB.trans (b2.mono hB.size)
  have hg2 := Nat.lt_of_lt_of_le hg b2.size
  simp only [Option.isSome_some]
  clear b2 hg HP
  have HX := Lib.hid (ref38_Ahead s hs w2 (HT.out.below hB))
  unfold aheadV at HX
  rw [HPT.out] at HX
  simp only at HX
  obtain ⟨a, ha⟩ : ∃ a, strE (aheadP (L.map PS.p)) = a := ⟨_, rfl⟩
  rw [ha] at HX
  obtain ⟨b, hb⟩ : ∃ b, allP (L.map PS.p) = b := ⟨_, rfl⟩
  rw [hb] at HX
  have HAE := Lib.hid ha
  have HBE := Lib.hid hb
  clear ha hb
  go_wp2_with fail
  refine HX.out.mono ?_
  clear HX
  rintro x w3 ⟨rfl, b3⟩
  have HP3 := Lib.hid ((HP2.out.below b3).more b3.size)
  replace BP := BP.below b3 hg2
  replace hB := hB.trans (b3.mono hB.size)
  have hg3 := Nat.lt_of_lt_of_le hg2 b3.size
  have q0 := BP.cell 0
  have q1 := BP.cell 1
  clear b3 HP2 hg2
  have HX := Lib.hid (glob_Plain A n c s L w3 HP3.out hn1000)
  rw [HAE.out, HBE.out] at HX
  have HM := Lib.hid (fun (w' : World) (hp : PatR psL 4 w' w'.heap.size A n L) => glob_Match A n c s a L w' hp hn1000)
  have HMM : Hid (b = true → matchP (L.map PS.p) (rest a 0) = true) := Lib.hid (fun h => by rw [← HAE.out, ahead_rest HPT.out]; exact plain_match (by rw [HBE.out]; exact h))
  have HAH := Lib.hid (fun (w' : World) (hp : PatR psL 4 w' w'.heap.size A n L) => glob_Ahead A n c s L w' hp hn1000)
  rw [HAE.out] at HAH
  have haa : (a.toList == a.toList) = true := by simp
  have haa2 : (a.toList != a.toList) = false := by simp
  cases b
  case' false =>
    simp only [Bool.false_eq_true, if_false] at HX
    go_wp2_with fail
    refine HX.out.mono ?_
    clear HX q0 q1
    rintro x w4 ⟨rfl, b4⟩
    have HP4 := Lib.hid ((HP3.out.below b4).more b4.size)
    replace BP := BP.below b4 hg3
    replace hB := hB.trans (b4.mono hB.size)
    have hg4 := Nat.lt_of_lt_of_le hg3 b4.size
    have q0 := BP.cell 0
    have q1 := BP.cell 1
    clear b4 HP3 hg3 HM
    go_wp2_with fail
    refine (HAH.out w4 HP4.out).mono ?_
  case' true =>
    simp only [if_true] at HX
    go_wp2_with fail
    refine HX.out.mono ?_
    clear HX q0 q1
    rintro x w4' ⟨rfl, b4⟩
    have HP4' := Lib.hid ((HP3.out.below b4).more b4.size)
    replace BP := BP.below b4 hg3
    replace hB := hB.trans (b4.mono hB.size)
    have hg4' := Nat.lt_of_lt_of_le hg3 b4.size
    have q0 := BP.cell 0
    have q1 := BP.cell 1
    clear b4 HP3 hg3
    have HM2 := Lib.hid (HM.out w4' HP4'.out)
    rw [HMM.out (by first | rfl | trivial)] at HM2
    go_wp2_with fail
    refine HM2.out.mono ?_
    clear HM HM2 q0 q1
    rintro x w4 ⟨rfl, b4⟩
    have HP4 := Lib.hid ((HP4'.out.below b4).more b4.size)
    replace BP := BP.below b4 hg4'
    replace hB := hB.trans (b4.mono hB.size)
    have hg4 := Nat.lt_of_lt_of_le hg4' b4.size
    have q0 := BP.cell 0
    have q1 := BP.cell 1
    clear b4 HP4' hg4'
    go_wp2_with fail
    refine (HAH.out w4 HP4.out).mono ?_
  all_goals
    clear HAH q0 q1
    rintro x w5 ⟨rfl, b5⟩
    replace hB := hB.trans (b5.mono hB.size)
    clear b5
    have HA := Lib.hid (alive38 w5 (HT.out.below hB))
    go_wp2_with fail
    refine HA.out.mono ?_
    rintro x w6 ⟨rfl, b6⟩
    replace hB := hB.trans (b6.mono hB.size)
    clear b6 HA
    go_wp2_with fail
    go_ret
    exact ⟨rfl, hB⟩
end Go.Proofs.YtedegdojbhegdaaDoor
