/- The chapter's examples on runes: they hold, whatever lies in memory. -/
import Derived.Test.YtedegdojbhegdaaDoorRnB
import Derived.Test.YtedegdojbhegdaaDoorRnE
namespace Go.Proofs.YtedegdojbhegdaaDoor
open Go.RowKit Go.Sort Go.Lib

theorem own_lits (w : World) (S : List (List UInt8)) (h : S.length ≤ 1000) : OwnS (w.alloc (.cells (S.map sv).toArray 9)) w.heap.size (.slice (some ⟨w.heap.size, 0, none⟩) S.length S.length) S := by
  have := World.ownsRow_lit (e := 9) (size := 1) w (S.map sv).toArray S.length (Nat.le_refl _) (by unfold maxLen; omega) (by simp)
  simpa [OwnS] using this
theorem words_ex : wordsP [97, 32, 34, 98, 32, 99, 34, 100] = [[97], [34, 98, 32, 99, 34], [100]] := by decide +kernel
theorem key_ex1 : keyB ⟨#[97, 195, 169, 45, 49]⟩ = true := by decide +kernel
theorem key_ex2 : keyB ⟨#[45, 97]⟩ = false := by decide +kernel

set_option maxRecDepth 100000 in
set_option maxHeartbeats 1000000 in
theorem alive01 (w : World) (hT : Tabs w) : Calls Tryd.prog 14 #[] w fun e w' => e = .returned (.bool true) ∧ Below w.heap.size w w' := by
  have HT := Lib.hid hT
  have HW := Lib.hid (runes_Words ⟨#[97, 32, 34, 98, 32, 99, 34, 100]⟩ (by decide) w)
  rw [show bl ⟨#[97, 32, 34, 98, 32, 99, 34, 100]⟩ = [97, 32, 34, 98, 32, 99, 34, 100] from rfl, words_ex] at HW
  clear hT
  go_enter Tryd.func14, Tryd.ntmps14
  go_wp2_with fail
  refine HW.out.mono ?_
  clear HW
  rintro e w1 ⟨v1, rfl, o1, hB⟩
  have o2 := own_lits w1 [[97], [34, 98, 32, 99, 34], [100]] (by decide)
  change OwnS (w1.alloc (.cells #[.string ⟨#[97]⟩, .string ⟨#[34, 98, 32, 99, 34]⟩, .string ⟨#[100]⟩] 9)) _ (.slice _ 3 3) _ at o2
  replace o1 := o1.alloc (.cells #[.string ⟨#[97]⟩, .string ⟨#[34, 98, 32, 99, 34]⟩, .string ⟨#[100]⟩] 9)
  replace hB := hB.alloc hB.size (.cells #[.string ⟨#[97]⟩, .string ⟨#[34, 98, 32, 99, 34]⟩, .string ⟨#[100]⟩] 9)
  obtain ⟨A1, c1, rfl, _, _, r1⟩ := o1.reads
  obtain ⟨A2, c2, e2, _, _, r2⟩ := o2.reads
  injection e2 with e21 e22 e23
  subst e21 e23
  have HS := Lib.hid (ref01_Same A1 _ 3 3 c1 3 [[97], [34, 98, 32, 99, 34], [100]] [[97], [34, 98, 32, 99, 34], [100]] _ r1 r2 (by decide))
  rw [decide_eq_true rfl] at HS
  clear o1 o2 r1 r2 e22
  simp only [List.length_cons, List.length_nil, Nat.zero_add, Nat.reduceAdd]
  go_wp2_with fail
  refine HS.out.mono ?_
  clear HS
  rintro e w2 ⟨rfl, b2⟩
  replace hB := hB.trans (b2.mono hB.size)
  clear b2
  have HK := Lib.hid (runes_Key ⟨#[97, 195, 169, 45, 49]⟩ (by decide) w2 (HT.out.below hB))
  rw [key_ex1] at HK
  go_wp2_with fail
  refine HK.out.mono ?_
  clear HK
  rintro e w3 ⟨rfl, b3⟩
  replace hB := hB.trans (b3.mono hB.size)
  clear b3
  have HK := Lib.hid (runes_Key ⟨#[45, 97]⟩ (by decide) w3 (HT.out.below hB))
  rw [key_ex2] at HK
  go_wp2_with fail
  refine HK.out.mono ?_
  clear HK
  rintro e w4 ⟨rfl, b4⟩
  replace hB := hB.trans (b4.mono hB.size)
  clear b4
  go_wp2_with fail
  go_ret
  exact ⟨rfl, hB⟩
end Go.Proofs.YtedegdojbhegdaaDoor
