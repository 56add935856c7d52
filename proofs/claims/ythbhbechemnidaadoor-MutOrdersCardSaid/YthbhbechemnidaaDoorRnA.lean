/- Contracts of runes.bad, part, Key, over the tables of unicode/utf8. -/
import Derived.Test.YthbhbechemnidaaDoorShelf
import Derived.Test.YthbhbechemnidaaDoorRunes
import Derived.Test.YthbhbechemnidaaDoorKeep
import Derived.Lib.RuneCountTail
import Derived.Deep.Cut
namespace Go.Proofs.YthbhbechemnidaaDoor
open Go.RowKit Go.Sort Go.Lib

/-- The tables of unicode/utf8 lie as their initialisers lay them. -/
def Tabs (w : World) : Prop := Lib.Utf8Tabs 0 1 w
theorem Tabs.below {w w' : World} (h : Tabs w) (hb : Below w.heap.size w w') : Tabs w' :=
  ⟨fun c hc => hb_cell hb (h.1 c hc), fun i hi => ⟨hb_cell hb (h.2 i hi).1, hb_cell hb (h.2 i hi).2⟩⟩
theorem Tabs.in_ {B : Nat} {w w' : World} (h : Tabs w) (hB : w.heap.size ≤ B) (hb : Below B w w') : Tabs w' := h.below (hb.mono hB)

theorem ret_b {a b : Bool} (h : a = b) : Ending.returned (.bool a) = .returned (.bool b) := by rw [h]
theorem decodeGo_at (s : ByteArray) (p : Nat) (hp : p < s.size) : Lib.decodeGo (s.extract p s.size) = Utf8.decode s p := by
  have hs : (s.extract p s.size).size = s.size - p := by rw [ByteArray.size_extract]; omega
  unfold Lib.decodeGo
  rw [if_neg (by omega), Lib.tail_decode s p 0, Nat.add_zero]

/-- Is a rune of so many bytes one of a byte that begins none? -/
def badD (r d : Nat) : Bool := decide (r = 65533 ∧ d < 2)
set_option maxRecDepth 100000 in
theorem runes_bad (s : ByteArray) (p r d : Nat) (hD : Utf8.decode s p = (r, d)) (hp : p < s.size) (_hs : s.size ≤ maxLen) (w : World) (hT : Tabs w) :
    Calls Tryd.prog 109 #[.string s, .int .i64 p, .int .i32 r] w fun e w' => e = .returned (.bool (badD r d)) ∧ Below w.heap.size w w' := by
  unfold maxLen at _hs
  by_cases hr : r = 65533
  · subst hr
    have hne : ((65533 : Int) != 65533) = false := by decide
    have HC := Lib.hid (Tryd.utf8_DecodeRuneInString (s.extract p s.size) w hT)
    rw [decodeGo_at s p hp, hD] at HC
    clear hT hD
    go_enter Tryd.func109, Tryd.ntmps109
    go_wp2_with fail
    refine HC.out.mono ?_
    rintro e w1 ⟨rfl, b1⟩
    go_wp2_with fail
    go_ret
    exact ⟨ret_b (by unfold badD; simp; omega), b1⟩
  · have hne : ((r : Int) != 65533) = true := by simp; omega
    have H : Hid (badD r d = false) := Lib.hid (by unfold badD; simp [hr])
    clear hT hD
    go_enter Tryd.func109, Tryd.ntmps109
    go_wp2_with fail
    go_ret
    exact ⟨ret_b H.out.symm, Below.refl _ _⟩

def letterB (r : Nat) : Bool := decide (97 ≤ r ∧ r ≤ 122) || decide (65 ≤ r ∧ r ≤ 90) || decide (128 ≤ r)
def partB (r : Nat) (first : Bool) : Bool := letterB r || (!first && (decide (48 ≤ r ∧ r ≤ 57) || r == 45 || r == 95))
set_option maxRecDepth 100000 in
set_option maxHeartbeats 1000000 in
theorem runes_part (r : Nat) (first : Bool) (w : World) (hr : r ≤ 2147483647) :
    Calls Tryd.prog 110 #[.int .i32 r, .bool first] w fun e w' => e = .returned (.bool (partB r first)) ∧ w = w' := by
  obtain ⟨q, hq⟩ : ∃ q, partB r first = q := ⟨_, rfl⟩
  have HQ := Lib.hid hq
  rw [hq]
  clear hq
  rcases (show r < 45 ∨ r = 45 ∨ (46 ≤ r ∧ r < 48) ∨ (48 ≤ r ∧ r ≤ 57) ∨ (58 ≤ r ∧ r < 65) ∨ (65 ≤ r ∧ r ≤ 90) ∨ (91 ≤ r ∧ r < 95) ∨ r = 95 ∨ r = 96 ∨ (97 ≤ r ∧ r ≤ 122) ∨ (123 ≤ r ∧ r < 128) ∨ 128 ≤ r by omega) with h | h | h | h | h | h | h | h | h | h | h | h
  all_goals
    cases first
    all_goals
      go_enter Tryd.func110, Tryd.ntmps110
      go_wp2_with fail
      all_goals
        go_ret
        exact ⟨ret_b (by rw [← HQ.out]; unfold partB letterB; rw [Bool.eq_iff_iff]; first | (simp; omega) | (simp; done) | (subst h; decide)), rfl⟩
end Go.Proofs.YthbhbechemnidaaDoor
