/- The walk of the law RunesWords: it returns true, and nothing that was there ahead of the call has turned. Condition: the tables of unicode/utf8 lie as they are laid. -/
import Derived.Test.YtfebncpfhdgkpaaDoorRnF
import Derived.Test.YtfebncpfhdgkpaaDoorRnH
namespace Go.Proofs.YtfebncpfhdgkpaaDoor
open Go.RowKit Go.Sort Go.Lib

theorem fresh_Same {w : World} {B1 B2 : Nat} {v1 v2 : Value} {S : List (List UInt8)} (h1 : OwnS w B1 v1 S) (h2 : OwnS w B2 v2 S) (hm : S.length ≤ 1000000000) :
    Calls Tryd.prog 5 #[v1, v2] w fun e w' => e = .returned (.bool true) ∧ Below w.heap.size w w' := by
  obtain ⟨A1, c1, rfl, _, _, r1⟩ := h1.reads
  obtain ⟨A2, c2, rfl, _, _, r2⟩ := h2.reads
  have := ref01_Same A1 A2 S.length S.length c1 c2 S S w r1 r2 (by omega)
  rwa [decide_eq_true rfl] at this
theorem wordsF_len : ∀ (f : Nat) (l : List UInt8), (wordsF f l).length ≤ l.length
  | 0, l => by simp [wordsF]
  | f + 1, [] => by simp [wordsF]
  | f + 1, c :: r => by
    have he := (endP_le (c :: r)).2 (by simp)
    rw [wordsF_cons]
    split
    · have := wordsF_len f r
      simp only [List.length_cons]
      omega
    · have := wordsF_len f ((c :: r).drop (endP (c :: r)))
      rw [List.length_drop] at this
      simp only [List.length_cons] at this ⊢
      omega
theorem wordsP_len (l : List UInt8) : (wordsP l).length ≤ l.length := wordsF_len _ _
theorem lin_len : ∀ (l a : List UInt8), (lin a l).length ≤ l.length + 1
  | [], a => by cases a <;> simp [lin]
  | c :: r, a => by
    rw [lin_cons]
    split
    · have := lin_len r []
      simp only [List.length_cons]
      omega
    · have := lin_len r (a ++ [c])
      simp only [List.length_cons]
      omega

set_option maxRecDepth 100000 in
set_option maxHeartbeats 1000000 in
theorem runes_words_walk (w : World) (hT : Tabs w) (s : ByteArray) (hs : s.size ≤ maxLen) : Calls Tryd.prog 3 #[.string s] w fun e w' => e = .returned (.bool true) ∧ Below w.heap.size w w' := by
  unfold maxLen at hs
  by_cases hbig : 2000 < s.size
  · have hd : decide (2000 < (s.size : Int)) = true := by simp; omega
    clear hT
    go_enter Tryd.func3, Tryd.ntmps3
    go_wp2_with fail
    go_ret
    exact ⟨rfl, Below.refl _ _⟩
  have hd : decide (2000 < (s.size : Int)) = false := by simp; omega
  have HT := Lib.hid hT
  clear hT
  have hwl := wordsP_len (bl s)
  have hll := lin_len (bl s) []
  rw [bl_length] at hwl hll
  go_enter Tryd.func3, Tryd.ntmps3
  go_wp2_with fail
  refine (runes_Words s (by omega) w).mono ?_
  rintro e w1 ⟨v1, rfl, o1, hB⟩
  have o1 := Lib.hid o1
  go_wp2_with fail
  refine (ref01_Words s (by omega) w1).mono ?_
  rintro e w2 ⟨v2, rfl, o2, b2⟩
  replace o1 := Lib.hid (o1.out.below b2)
  have o2 := Lib.hid o2
  replace hB := hB.trans (b2.mono hB.size)
  clear b2
  go_wp2_with fail
  refine (fresh_Same o1.out o2.out (by omega)).mono ?_
  rintro e w3 ⟨rfl, b3⟩
  replace hB := hB.trans (b3.mono hB.size)
  clear b3 o1 o2
  go_wp2_with fail
  refine (runes_Lines s (by omega) w3).mono ?_
  rintro e w4 ⟨v4, rfl, o1, b4⟩
  replace hB := hB.trans (b4.mono hB.size)
  have o1 := Lib.hid o1
  clear b4
  go_wp2_with fail
  refine (ref01_Lines s (by omega) w4).mono ?_
  rintro e w5 ⟨v5, rfl, o2, b5⟩
  replace o1 := Lib.hid (o1.out.below b5)
  have o2 := Lib.hid o2
  replace hB := hB.trans (b5.mono hB.size)
  clear b5
  go_wp2_with fail
  refine (fresh_Same o1.out o2.out (by unfold linesP; omega)).mono ?_
  rintro e w6 ⟨rfl, b6⟩
  replace hB := hB.trans (b6.mono hB.size)
  clear b6 o1 o2
  go_wp2_with fail
  refine (alive01 w6 (HT.out.below hB)).mono ?_
  rintro e w7 ⟨rfl, b7⟩
  replace hB := hB.trans (b7.mono hB.size)
  go_wp2_with fail
  go_ret
  exact ⟨rfl, hB⟩
end Go.Proofs.YtfebncpfhdgkpaaDoor
