/- The walk of the law RunesKeys: it returns true, and nothing that was there ahead of the call has turned. Conditions: the tables of unicode/utf8 lie as they are laid; the text has at most 2^46 bytes. -/
import Derived.Test.YtedegdojbhegdaaDoorRnF
import Derived.Test.YtedegdojbhegdaaDoorRnL
namespace Go.Proofs.YtedegdojbhegdaaDoor
open Go.RowKit Go.Sort Go.Lib

set_option maxRecDepth 100000 in
set_option maxHeartbeats 1000000 in
theorem runes_keys_walk (w : World) (hT : Tabs w) (s : ByteArray) (hs : s.size ≤ 70368744177664) : Calls Tryd.prog 8 #[.string s] w fun e w' => e = .returned (.bool true) ∧ Below w.heap.size w w' := by
  have hm : s.size ≤ maxLen := by unfold maxLen; omega
  have HT := Lib.hid hT
  have HM := Lib.hid hm
  clear hT hm
  have H1 := Lib.hid (runes_Key s HM.out w HT.out)
  obtain ⟨q, hq⟩ : ∃ q, keyB s = q := ⟨_, rfl⟩
  have HQ := Lib.hid hq
  rw [hq] at H1
  clear hq
  go_enter Tryd.func8, Tryd.ntmps8
  go_wp2_with fail
  refine H1.out.mono ?_
  clear H1
  rintro e w1 ⟨rfl, hB⟩
  have H2 := Lib.hid (ref01_Key s hs w1 (HT.out.below hB))
  rw [HQ.out] at H2
  clear HQ
  go_wp2_with fail
  refine H2.out.mono ?_
  clear H2
  rintro e w2 ⟨rfl, b2⟩
  replace hB := hB.trans (b2.mono hB.size)
  clear b2
  have H1 := Lib.hid (runes_Val s HM.out w2 (HT.out.below hB))
  obtain ⟨v, hv⟩ : ∃ q, valB s = q := ⟨_, rfl⟩
  have HV := Lib.hid hv
  rw [hv] at H1
  clear hv
  have hbb : (q == q) = true := by simp
  have hvv : (v == v) = true := by simp
  go_wp2_with fail
  refine H1.out.mono ?_
  clear H1
  rintro e w3 ⟨rfl, b3⟩
  replace hB := hB.trans (b3.mono hB.size)
  clear b3
  have H2 := Lib.hid (ref01_Val s HM.out w3 (HT.out.below hB))
  rw [HV.out] at H2
  clear HV
  go_wp2_with fail
  refine H2.out.mono ?_
  clear H2
  rintro e w4 ⟨rfl, b4⟩
  replace hB := hB.trans (b4.mono hB.size)
  clear b4
  go_wp2_with fail
  refine (alive01 w4 (HT.out.below hB)).mono ?_
  rintro e w7 ⟨rfl, b7⟩
  replace hB := hB.trans (b7.mono hB.size)
  go_wp2_with fail
  go_ret
  exact ⟨rfl, hB⟩
end Go.Proofs.YtedegdojbhegdaaDoor
