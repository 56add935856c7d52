/- The walk of the law RunesQuotes: it returns true, and nothing that was there ahead of the call has turned. Condition: the tables of unicode/utf8 lie as they are laid. -/
import Derived.Test.YtedegdojbhegdaaDoorRnF
import Derived.Test.YtedegdojbhegdaaDoorRnR
namespace Go.Proofs.YtedegdojbhegdaaDoor
open Go.RowKit Go.Sort Go.Lib

set_option maxRecDepth 100000 in
set_option maxHeartbeats 1000000 in
theorem runes_quotes_walk (w : World) (hT : Tabs w) (s : ByteArray) (hs : s.size ≤ maxLen) (q : ByteArray) (hq : q.size ≤ maxLen) : Calls Tryd.prog 3 #[.string s, .string q] w fun e w' => e = .returned (.bool true) ∧ Below w.heap.size w w' := by
  unfold maxLen at hs hq
  by_cases hbig : 2000 < s.size
  · have hd : decide (2000 < (s.size : Int)) = true := by simp; omega
    clear hT
    go_enter Tryd.func3, Tryd.ntmps3
    go_wp2_with fail
    go_ret
    exact ⟨rfl, Below.refl _ _⟩
  have hd : decide (2000 < (s.size : Int)) = false := by simp; omega
  by_cases hbig2 : 2000 < q.size
  · have hd : decide (2000 < (q.size : Int)) = true := by simp; omega
    clear hT
    go_enter Tryd.func3, Tryd.ntmps3
    go_wp2_with fail
    go_ret
    exact ⟨rfl, Below.refl _ _⟩
  have hd2 : decide (2000 < (q.size : Int)) = false := by simp; omega
  have HT := Lib.hid hT
  clear hT
  have HU := Lib.hid (runes_Unquote q (by omega) w HT.out)
  rcases both q with ⟨t, h1, h2⟩ | ⟨h1, u, h2⟩
  all_goals
    rw [h1] at HU
    have H2 := Lib.hid h2
    clear h1 h2
    go_enter Tryd.func3, Tryd.ntmps3
    go_wp2_with fail
    refine HU.out.mono ?_
    clear HU
    rintro e w1 ⟨rfl, hB⟩
    go_wp2_with fail
    have HR := Lib.hid (ref01_Unquote q (by omega) w1 (HT.out.below hB))
    rw [H2.out] at HR
    refine HR.out.mono ?_
    clear HR
    rintro e w2 ⟨rfl, b2⟩
    replace hB := hB.trans (b2.mono hB.size)
    clear b2
    go_wp2_with fail
    refine (runes_Quote s (by omega) w2 (HT.out.below hB)).mono ?_
    rintro e w3 ⟨rfl, b3⟩
    replace hB := hB.trans (b3.mono hB.size)
    clear b3
    go_wp2_with fail
    refine (ref01_Quote s (by omega) w3 (HT.out.below hB)).mono ?_
    rintro e w4 ⟨rfl, b4⟩
    replace hB := hB.trans (b4.mono hB.size)
    clear b4
    go_wp2_with fail
    refine (alive01 w4 (HT.out.below hB)).mono ?_
    rintro e w7 ⟨rfl, b7⟩
    replace hB := hB.trans (b7.mono hB.size)
    go_wp2_with fail
    go_ret
    exact ⟨rfl, hB⟩
end Go.Proofs.YtedegdojbhegdaaDoor
