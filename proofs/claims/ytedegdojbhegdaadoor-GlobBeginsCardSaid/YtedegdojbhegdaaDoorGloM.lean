/- The chapter's example on patterns: it holds, whatever lies in memory. Condition: the tables of unicode/utf8 lie as they are laid. -/
import Derived.Test.YtedegdojbhegdaaDoorGloF
import Derived.Test.YtedegdojbhegdaaDoorGloH
namespace Go.Proofs.YtedegdojbhegdaaDoor
open Go.RowKit Go.Sort

def exS : ByteArray := ⟨#[97, 42, 91, 98, 45, 100, 93]⟩
def exP : List Part := [⟨0, [(97, 97)]⟩, ⟨3, []⟩, ⟨0, [(98, 100)]⟩]
theorem ex_runes : allRunes exS = true := by decide +kernel
theorem ex_rest : rest exS 0 = [97, 42, 91, 98, 45, 100, 93] := by decide +kernel
theorem ex_pat : patP exS = some exP := by
  unfold patP
  rw [if_neg (by rw [ex_runes]; simp [exS]; decide), ex_rest]
  rfl
theorem ex_rest1 : rest ⟨#[97, 120, 99]⟩ 0 = [97, 120, 99] := by decide +kernel
theorem ex_rest2 : rest ⟨#[97, 120]⟩ 0 = [97, 120] := by decide +kernel
theorem ex_m1 : matchP exP [97, 120, 99] = true := by simp [matchP, exP, Mt, rowP, oneP, hasP, inS]
theorem ex_m2 : matchP exP [97, 120] = false := by simp [matchP, exP, Mt, rowP, oneP, hasP, inS]
theorem ex_enc : strE (aheadP exP) = ⟨#[97]⟩ := by
  have : aheadP exP = [97] := rfl
  rw [this]
  decide +kernel

set_option maxRecDepth 100000 in
set_option maxHeartbeats 2000000 in
theorem alive38 (w : World) (hT : Tabs w) : Calls Tryd.prog 19 #[] w fun x w' => x = .returned (.bool true) ∧ Below w.heap.size w w' := by
  have HN := Lib.hid (glob_New exS (by decide) w hT)
  clear hT
  unfold exS at HN
  go_enter Tryd.func19, Tryd.ntmps19
  go_wp2_with fail
  refine HN.out.mono ?_
  clear HN
  rintro x w1 ⟨hB, ⟨hp, _⟩ | ⟨A, n, c, L, hp, rfl, hn, hnc, hpr⟩⟩
  · rw [show (⟨#[97, 42, 91, 98, 45, 100, 93]⟩ : ByteArray) = exS from rfl, ex_pat] at hp
    cases hp
  rw [show (⟨#[97, 42, 91, 98, 45, 100, 93]⟩ : ByteArray) = exS from rfl, ex_pat] at hp
  injection hp with hp
  have hn3 : n = 3 := by rw [hn, ← List.length_map (f := PS.p), ← hp]; rfl
  have HL := Lib.hid hp.symm
  have hn1000 : n ≤ 1000 := by omega
  have BP := Blk.new w1 35 #[.slice A n c, .string ⟨#[97, 42, 91, 98, 45, 100, 93]⟩]
  have hPR : PatR psL 4 (w1.alloc (.cells #[.slice A n c, .string ⟨#[97, 42, 91, 98, 45, 100, 93]⟩] 35)) (w1.alloc (.cells #[.slice A n c, .string ⟨#[97, 42, 91, 98, 45, 100, 93]⟩] 35)).heap.size A n L := (hpr.below ((Below.refl _ _).alloc (Nat.le_refl _) _)).more (by simp)
  replace hB := hB.alloc hB.size (.cells #[.slice A n c, .string ⟨#[97, 42, 91, 98, 45, 100, 93]⟩] 35)
  have hg : w1.heap.size < (w1.alloc (.cells #[.slice A n c, .string ⟨#[97, 42, 91, 98, 45, 100, 93]⟩] 35)).heap.size := by simp
  have q0 := BP.cell 0
  have q1 := BP.cell 1
  have HM := Lib.hid (glob_Match A n c ⟨#[97, 42, 91, 98, 45, 100, 93]⟩ ⟨#[97, 120, 99]⟩ L _ hPR hn1000)
  rw [HL.out, ex_rest1, ex_m1] at HM
  have HP := Lib.hid hPR
  clear hp hn hn3 hpr hPR
  go_wp2_with fail
  generalize w1.alloc (.cells #[.slice A n c, .string ⟨#[97, 42, 91, 98, 45, 100, 93]⟩] 35) = W at *
  refine HM.out.mono ?_
  clear HM q0 q1
  rintro x w2 ⟨rfl, b2⟩
  have HP2 := Lib.hid ((HP.out.below b2).more b2.size)
  replace BP := BP.below b2 hg
  replace hB := hB.trans (b2.mono hB.size)
  have hg2 := Nat.lt_of_lt_of_le hg b2.size
  have q0 := BP.cell 0
  have q1 := BP.cell 1
  have HM := Lib.hid (glob_Match A n c ⟨#[97, 42, 91, 98, 45, 100, 93]⟩ ⟨#[97, 120]⟩ L _ HP2.out hn1000)
  rw [HL.out, ex_rest2, ex_m2] at HM
  clear b2 HP hg
  go_wp2_with fail
  refine HM.out.mono ?_
  clear HM q0 q1
  rintro x w3 ⟨rfl, b3⟩
  have HP3 := Lib.hid ((HP2.out.below b3).more b3.size)
  replace BP := BP.below b3 hg2
  replace hB := hB.trans (b3.mono hB.size)
  have hg3 := Nat.lt_of_lt_of_le hg2 b3.size
  have q0 := BP.cell 0
  have q1 := BP.cell 1
  have HM := Lib.hid (glob_Ahead A n c ⟨#[97, 42, 91, 98, 45, 100, 93]⟩ L _ HP3.out hn1000)
  rw [HL.out, ex_enc] at HM
  clear b3 HP2 hg2
  go_wp2_with fail
  refine HM.out.mono ?_
  clear HM q0 q1
  rintro x w4 ⟨rfl, b4⟩
  replace BP := BP.below b4 hg3
  replace hB := hB.trans (b4.mono hB.size)
  have q0 := BP.cell 0
  have q1 := BP.cell 1
  have HM := Lib.hid (glob_Text A n c ⟨#[97, 42, 91, 98, 45, 100, 93]⟩ w4)
  clear b4 HP3 hg3
  go_wp2_with fail
  refine HM.out.mono ?_
  rintro x w5 ⟨rfl, b5⟩
  replace hB := hB.trans (b5.mono hB.size)
  clear b5 HM
  go_wp2_with fail
  go_ret
  exact ⟨rfl, hB⟩
end Go.Proofs.YtedegdojbhegdaaDoor
