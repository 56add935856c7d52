/- Contracts of runes.bad, part, Key, over the tables of unicode/utf8. Contract of runes.Key; the runes of a text with their widths. -/
import Derived.Test.YtimmfcbpdnlfjaaDoorShelf
import Derived.Test.YtimmfcbpdnlfjaaDoorRunes
import Derived.Test.YtimmfcbpdnlfjaaDoorKeep
import Derived.Lib.RuneCountTail
import Derived.Deep.Cut
namespace Go.Proofs.YtimmfcbpdnlfjaaDoor
open Go.RowKit Go.Sort Go.Lib

/-- The tables of unicode/utf8 lie as their initialisers lay them. -/
def Tabs (w : World) : Prop := Lib.Utf8Tabs 0 1 w
theorem Tabs.below {w w' : World} (h : Tabs w) (hb : Below w.heap.size w w') : Tabs w' :=
  ⟨fun c hc => hb_cell hb (h.1 c hc), fun i hi => ⟨hb_cell hb (h.2 i hi).1, hb_cell hb (h.2 i hi).2⟩⟩
theorem Tabs.in_ {B : Nat} {w w' : World} (h : Tabs w) (hB : w.heap.size ≤ B) (hb : Below B w w') : Tabs w' := h.below (hb.mono hB)

theorem ret_b {a b : Bool} (h : a = b) : Ending.returned (.bool a) = .returned (.bool b) := by rw [h]
theorem decodeGo_at (s : ByteArray) (p : Nat) (hp : p < s.size) : Lib.decodeGo (s.extract p s.size) = Utf8.decode s p := by
  have hs : (s.extract p s.size).size = s.size - p := by rw [ByteArray.size_extract]; omega
  unfold Lib.decodeGo
  rw [if_neg (by omega), Lib.tail_decode s p 0, Nat.add_zero]

/-- Is a rune of so many bytes one of a byte that begins none? -/
def badD (r d : Nat) : Bool := decide (r = 65533 ∧ d < 2)
set_option maxRecDepth 100000 in
theorem runes_bad (s : ByteArray) (p r d : Nat) (hD : Utf8.decode s p = (r, d)) (hp : p < s.size) (_hs : s.size ≤ maxLen) (w : World) (hT : Tabs w) :
    Calls Tryd.prog 55 #[.string s, .int .i64 p, .int .i32 r] w fun e w' => e = .returned (.bool (badD r d)) ∧ Below w.heap.size w w' := by
  unfold maxLen at _hs
  by_cases hr : r = 65533
  · subst hr
    have hne : ((65533 : Int) != 65533) = false := by decide
    have HC := Lib.hid (Tryd.utf8_DecodeRuneInString (s.extract p s.size) w hT)
    rw [decodeGo_at s p hp, hD] at HC
    clear hT hD
    go_enter Tryd.func55, Tryd.ntmps55
    go_wp2_with fail
    refine HC.out.mono ?_
    rintro e w1 ⟨rfl, b1⟩
    go_wp2_with fail
    go_ret
    exact ⟨ret_b (by unfold badD; simp; omega), b1⟩
  · have hne : ((r : Int) != 65533) = true := by simp; omega
    have H : Hid (badD r d = false) := Lib.hid (by unfold badD; simp [hr])
    clear hT hD
    go_enter Tryd.func55, Tryd.ntmps55
    go_wp2_with fail
    go_ret
    exact ⟨ret_b H.out.symm, Below.refl _ _⟩

def letterB (r : Nat) : Bool := decide (97 ≤ r ∧ r ≤ 122) || decide (65 ≤ r ∧ r ≤ 90) || decide (128 ≤ r)
def partB (r : Nat) (first : Bool) : Bool := letterB r || (!first && (decide (48 ≤ r ∧ r ≤ 57) || r == 45 || r == 95))
end Go.Proofs.YtimmfcbpdnlfjaaDoor

namespace Go.Proofs.YtimmfcbpdnlfjaaDoor
open Go.RowKit Go.Sort Go.Lib

def pns (s : ByteArray) : Nat → Nat → List (Nat × Nat)
  | 0, _ => []
  | f + 1, i => if i < s.size then Utf8.decode s i :: pns s f (i + (Utf8.decode s i).2) else []
theorem pns_end (s : ByteArray) (f i : Nat) (h : s.size ≤ i) : pns s f i = [] := by
  cases f with
  | zero => rfl
  | succ f => rw [pns, if_neg (by omega)]
theorem pns_fuel (s : ByteArray) : ∀ (f i : Nat), s.size - i ≤ f → pns s f i = pns s (s.size - i) i
  | 0, i, h => by rw [show s.size - i = 0 by omega]
  | f + 1, i, h => by
    by_cases hi : i < s.size
    · obtain ⟨r, d, hD, hd, _⟩ := decode_some s i hi
      have e : s.size - i = (s.size - i - 1) + 1 := by omega
      rw [e, pns, pns, if_pos hi, if_pos hi, hD]
      simp only
      rw [pns_fuel s f (i + d) (by omega)]
      by_cases h1 : i + d < s.size
      · rw [← pns_fuel s (s.size - i - 1) (i + d) (by omega)]
      · rw [pns_end s _ _ (by omega), pns_end s _ _ (by omega)]
    · rw [pns_end s _ _ (by omega), pns_end s _ _ (by omega)]
  termination_by f _ => f
/-- The runes from a place on, each with its width. -/
def prs (s : ByteArray) (k : Nat) : List (Nat × Nat) := pns s (s.size - k) k
theorem prs_cons (s : ByteArray) (k : Nat) (h : k < s.size) {r d : Nat} (hD : Utf8.decode s k = (r, d)) (hd : 1 ≤ d) : prs s k = (r, d) :: prs s (k + d) := by
  unfold prs
  have e : s.size - k = (s.size - k - 1) + 1 := by omega
  rw [e, pns, if_pos h, hD]
  simp only
  by_cases h1 : k + d < s.size
  · rw [pns_fuel s (s.size - k - 1) (k + d) (by omega)]
  · rw [pns_end s _ _ (by omega), pns_end s _ _ (by omega)]
theorem prs_end (s : ByteArray) (k : Nat) (h : s.size ≤ k) : prs s k = [] := pns_end s _ _ h

def goodK : List (Nat × Nat) → Bool → Bool
  | [], _ => true
  | (r, d) :: t, first => !badD r d && partB r first && goodK t false
def keyB (s : ByteArray) : Bool := decide (0 < s.size) && decide (s.size ≤ 24) && goodK (prs s 0) true
theorem size_pos_str (s : ByteArray) (h : 0 < s.size) : (s.toList = []) = False := by
  rw [Lib.toList_data]
  have : s.data.toList.length = s.size := Array.length_toList
  simp only [eq_iff_iff, iff_false]
  intro e
  rw [e] at this
  simp at this
  omega

end Go.Proofs.YtimmfcbpdnlfjaaDoor
