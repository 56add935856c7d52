/- The walk of the law GlobMatches: it returns true, and nothing that was there ahead of the call has turned. Condition: the tables of unicode/utf8 lie as they are laid. -/
import Derived.Test.YtedegdojbhegdaaDoorGloL
import Derived.Test.YtedegdojbhegdaaDoorGloM
namespace Go.Proofs.YtedegdojbhegdaaDoor
open Go.RowKit Go.Sort

theorem pat_short {s : ByteArray} {P : List Part} (h : patP s = some P) : P.length ≤ 100 ∧ s.size ≤ 100 := by
  unfold patP at h
  split at h
  · cases h
  · rename_i hc
    have := pt_len _ _ (Nat.le_refl _) _ h
    have := rest_length s 0
    exact ⟨by omega, by omega⟩

set_option maxRecDepth 100000 in
set_option maxHeartbeats 2000000 in
theorem glob_matches_walk (w : World) (hT : Tabs w) (s : ByteArray) (hs : s.size ≤ maxLen) (t : ByteArray) (ht : t.size ≤ maxLen) : Calls Tryd.prog 5 #[.string s, .string t] w fun e w' => e = .returned (.bool true) ∧ Below w.heap.size w w' := by
  unfold maxLen at hs ht
  by_cases h300 : 300 < t.size
  · have hd : decide (300 < (t.size : Int)) = true := by simp; omega
    clear hT
    go_enter Tryd.func5, Tryd.ntmps5
    go_wp2_with fail
    go_ret
    exact ⟨rfl, Below.refl _ _⟩
  have hd : decide (300 < (t.size : Int)) = false := by simp; omega
  have HT := Lib.hid hT
  have HN := Lib.hid (glob_New s hs w hT)
  clear hT
  go_enter Tryd.func5, Tryd.ntmps5
  go_wp2_with fail
  refine HN.out.mono ?_
  clear HN
  rintro x w1 ⟨hB, ⟨hp, rfl⟩ | ⟨A, n, c, L, hp, rfl, hn, hnc, hpr⟩⟩
  · have BP := Blk.new w1 35 #[.slice none 0 0, .string ⟨#[]⟩]
    replace hB := hB.alloc hB.size (.cells #[.slice none 0 0, .string ⟨#[]⟩] 35)
    have HR := Lib.hid (ref38_Right s hs (w1.alloc (.cells #[.slice none 0 0, .string ⟨#[]⟩] 35)) (HT.out.below hB))
    rw [hp] at HR
    clear hp
    have hg := BP.lt
    go_wp2_with fail
    refine HR.out.mono ?_
    clear HR
    rintro x w2 ⟨rfl, b2⟩
    replace BP := BP.below b2 hg
    replace hB := hB.trans (b2.mono hB.size)
    have q0 := BP.cell 0
    have q1 := BP.cell 1
    simp only [Option.isSome_none]
    clear b2 hg
    have HX := Lib.hid (glob_Text none 0 0 ⟨#[]⟩ w2)
    go_wp2_with fail
    refine HX.out.mono ?_
    clear HX q0 q1 BP
    rintro x w3 ⟨rfl, b3⟩
    replace hB := hB.trans (b3.mono hB.size)
    clear b3
    have HA := Lib.hid (alive38 w3 (HT.out.below hB))
    go_wp2_with fail
    refine HA.out.mono ?_
    rintro x w4 ⟨rfl, b4⟩
    replace hB := hB.trans (b4.mono hB.size)
    clear b4 HA
    go_wp2_with fail
    go_ret
    exact ⟨rfl, hB⟩
  have hsh := pat_short hp
  rw [List.length_map, ← hn] at hsh
  have hn1000 : n ≤ 1000 := by omega
  have HPT := Lib.hid hp
  have BP := Blk.new w1 35 #[.slice A n c, .string s]
  have hB1 : Below w1.heap.size w1 (w1.alloc (.cells #[.slice A n c, .string s] 35)) := (Below.refl _ _).alloc (Nat.le_refl _) _
  have HP := Lib.hid ((hpr.below hB1).more hB1.size)
  replace hB := hB.trans (hB1.mono hB.size)
  have HR := Lib.hid (ref38_Right s hs (w1.alloc (.cells #[.slice A n c, .string s] 35)) (HT.out.below hB))
  rw [hp] at HR
  have hg := BP.lt
  clear hp hpr hn hB1 hsh
  go_wp2_with fail
  refine HR.out.mono ?_
  clear HR
  rintro x w2 ⟨rfl, b2⟩
  have HP2 := Lib.hid ((HP.out.below b2).more b2.size)
  replace BP := BP.below b2 hg
  replace hB := hB.trans (b2.mono hB.size)
  have hg2 := Nat.lt_of_lt_of_le hg b2.size
  have q0 := BP.cell 0
  have q1 := BP.cell 1
  simp only [Option.isSome_some]
  clear b2 hg HP
  have HX := Lib.hid (glob_Text A n c s w2)
  go_wp2_with fail
  refine HX.out.mono ?_
  clear HX q0 q1
  rintro x w3 ⟨rfl, b3⟩
  have HP3 := Lib.hid ((HP2.out.below b3).more b3.size)
  replace BP := BP.below b3 hg2
  replace hB := hB.trans (b3.mono hB.size)
  have hg3 := Nat.lt_of_lt_of_le hg2 b3.size
  have q0 := BP.cell 0
  have q1 := BP.cell 1
  clear b3 HP2 hg2
  have HM := Lib.hid (glob_Match A n c s t L w3 HP3.out hn1000)
  obtain ⟨M, hM⟩ : ∃ M, matchP (L.map PS.p) (rest t 0) = M := ⟨_, rfl⟩
  rw [hM] at HM
  have HMM := Lib.hid hM
  clear hM
  go_wp2_with fail
  refine HM.out.mono ?_
  clear HM q0 q1
  rintro x w4 ⟨rfl, b4⟩
  replace hB := hB.trans (b4.mono hB.size)
  clear b4 HP3 BP hg3
  have HM := Lib.hid (ref38_Match s t (L.map PS.p) HPT.out hs (by omega) w4 (HT.out.below hB))
  rw [HMM.out] at HM
  go_wp2_with fail
  refine HM.out.mono ?_
  clear HM
  rintro x w5 ⟨rfl, b5⟩
  replace hB := hB.trans (b5.mono hB.size)
  clear b5
  have HA := Lib.hid (alive38 w5 (HT.out.below hB))
  have hmm : (M == M) = true := by simp
  go_wp2_with fail
  refine HA.out.mono ?_
  rintro x w6 ⟨rfl, b6⟩
  replace hB := hB.trans (b6.mono hB.size)
  clear b6 HA
  go_wp2_with fail
  go_ret
  exact ⟨rfl, hB⟩
end Go.Proofs.YtedegdojbhegdaaDoor
