/- Contracts of runes.bad, part, Key, over the tables of unicode/utf8. Contract of runes.Key; the runes of a text with their widths. -/
import Derived.Test.YtncdchhpdbmfcaaDoorShelf
import Derived.Test.YtncdchhpdbmfcaaDoorRunes
import Derived.Test.YtncdchhpdbmfcaaDoorKeep
import Derived.Lib.RuneCountTail
import Derived.Deep.Cut
namespace Go.Proofs.YtncdchhpdbmfcaaDoor
open Go.RowKit Go.Sort Go.Lib

/-- The tables of unicode/utf8 lie as their initialisers lay them. -/
def Tabs (w : World) : Prop := Lib.Utf8Tabs 0 1 w
theorem Tabs.below {w w' : World} (h : Tabs w) (hb : Below w.heap.size w w') : Tabs w' :=
  ⟨fun c hc => hb_cell hb (h.1 c hc), fun i hi => ⟨hb_cell hb (h.2 i hi).1, hb_cell hb (h.2 i hi).2⟩⟩
theorem Tabs.in_ {B : Nat} {w w' : World} (h : Tabs w) (hB : w.heap.size ≤ B) (hb : Below B w w') : Tabs w' := h.below (hb.mono hB)

theorem ret_b {a b : Bool} (h : a = b) : Ending.returned (.bool a) = .returned (.bool b) := by rw [h]
theorem decodeGo_at (s : ByteArray) (p : Nat) (hp : p < s.size) : Lib.decodeGo (s.extract p s.size) = Utf8.decode s p := by
  have hs : (s.extract p s.size).size = s.size - p := by rw [ByteArray.size_extract]; omega
  unfold Lib.decodeGo
  rw [if_neg (by omega), Lib.tail_decode s p 0, Nat.add_zero]

/-- Is a rune of so many bytes one of a byte that begins none? -/
def badD (r d : Nat) : Bool := decide (r = 65533 ∧ d < 2)
set_option maxRecDepth 100000 in
theorem runes_bad (s : ByteArray) (p r d : Nat) (hD : Utf8.decode s p = (r, d)) (hp : p < s.size) (_hs : s.size ≤ maxLen) (w : World) (hT : Tabs w) :
    Calls Tryd.prog 42 #[.string s, .int .i64 p, .int .i32 r] w fun e w' => e = .returned (.bool (badD r d)) ∧ Below w.heap.size w w' := by
  unfold maxLen at _hs
  by_cases hr : r = 65533
  · subst hr
    have hne : ((65533 : Int) != 65533) = false := by decide
    have HC := Lib.hid (Tryd.utf8_DecodeRuneInString (s.extract p s.size) w hT)
    rw [decodeGo_at s p hp, hD] at HC
    clear hT hD
    go_enter Tryd.func42, Tryd.ntmps42
    go_wp2_with fail
    refine HC.out.mono ?_
    rintro e w1 ⟨rfl, b1⟩
    go_wp2_with fail
    go_ret
    exact ⟨ret_b (by unfold badD; simp; omega), b1⟩
  · have hne : ((r : Int) != 65533) = true := by simp; omega
    have H : Hid (badD r d = false) := Lib.hid (by unfold badD; simp [hr])
    clear hT hD
    go_enter Tryd.func42, Tryd.ntmps42
    go_wp2_with fail
    go_ret
    exact ⟨ret_b H.out.symm, Below.refl _ _⟩

def letterB (r : Nat) : Bool := decide (97 ≤ r ∧ r ≤ 122) || decide (65 ≤ r ∧ r ≤ 90) || decide (128 ≤ r)
def partB (r : Nat) (first : Bool) : Bool := letterB r || (!first && (decide (48 ≤ r ∧ r ≤ 57) || r == 45 || r == 95))
set_option maxRecDepth 100000 in
set_option maxHeartbeats 1000000 in
theorem runes_part (r : Nat) (first : Bool) (w : World) (hr : r ≤ 2147483647) :
    Calls Tryd.prog 43 #[.int .i32 r, .bool first] w fun e w' => e = .returned (.bool (partB r first)) ∧ w = w' := by
  obtain ⟨q, hq⟩ : ∃ q, partB r first = q := ⟨_, rfl⟩
  have HQ := Lib.hid hq
  rw [hq]
  clear hq
  rcases (show r < 45 ∨ r = 45 ∨ (46 ≤ r ∧ r < 48) ∨ (48 ≤ r ∧ r ≤ 57) ∨ (58 ≤ r ∧ r < 65) ∨ (65 ≤ r ∧ r ≤ 90) ∨ (91 ≤ r ∧ r < 95) ∨ r = 95 ∨ r = 96 ∨ (97 ≤ r ∧ r ≤ 122) ∨ (123 ≤ r ∧ r < 128) ∨ 128 ≤ r by omega) with h | h | h | h | h | h | h | h | h | h | h | h
  all_goals
    cases first
    all_goals
      go_enter Tryd.func43, Tryd.ntmps43
      go_wp2_with fail
      all_goals
        go_ret
        exact ⟨ret_b (by rw [← HQ.out]; unfold partB letterB; rw [Bool.eq_iff_iff]; first | (simp; omega) | (simp; done) | (subst h; decide)), rfl⟩
end Go.Proofs.YtncdchhpdbmfcaaDoor

namespace Go.Proofs.YtncdchhpdbmfcaaDoor
open Go.RowKit Go.Sort Go.Lib

def pns (s : ByteArray) : Nat → Nat → List (Nat × Nat)
  | 0, _ => []
  | f + 1, i => if i < s.size then Utf8.decode s i :: pns s f (i + (Utf8.decode s i).2) else []
theorem pns_end (s : ByteArray) (f i : Nat) (h : s.size ≤ i) : pns s f i = [] := by
  cases f with
  | zero => rfl
  | succ f => rw [pns, if_neg (by omega)]
theorem pns_fuel (s : ByteArray) : ∀ (f i : Nat), s.size - i ≤ f → pns s f i = pns s (s.size - i) i
  | 0, i, h => by rw [show s.size - i = 0 by omega]
  | f + 1, i, h => by
    by_cases hi : i < s.size
    · obtain ⟨r, d, hD, hd, _⟩ := decode_some s i hi
      have e : s.size - i = (s.size - i - 1) + 1 := by omega
      rw [e, pns, pns, if_pos hi, if_pos hi, hD]
      simp only
      rw [pns_fuel s f (i + d) (by omega)]
      by_cases h1 : i + d < s.size
      · rw [← pns_fuel s (s.size - i - 1) (i + d) (by omega)]
      · rw [pns_end s _ _ (by omega), pns_end s _ _ (by omega)]
    · rw [pns_end s _ _ (by omega), pns_end s _ _ (by omega)]
  termination_by f _ => f
/-- The runes from a place on, each with its width. -/
def prs (s : ByteArray) (k : Nat) : List (Nat × Nat) := pns s (s.size - k) k
theorem prs_cons (s : ByteArray) (k : Nat) (h : k < s.size) {r d : Nat} (hD : Utf8.decode s k = (r, d)) (hd : 1 ≤ d) : prs s k = (r, d) :: prs s (k + d) := by
  unfold prs
  have e : s.size - k = (s.size - k - 1) + 1 := by omega
  rw [e, pns, if_pos h, hD]
  simp only
  by_cases h1 : k + d < s.size
  · rw [pns_fuel s (s.size - k - 1) (k + d) (by omega)]
  · rw [pns_end s _ _ (by omega), pns_end s _ _ (by omega)]
theorem prs_end (s : ByteArray) (k : Nat) (h : s.size ≤ k) : prs s k = [] := pns_end s _ _ h

def goodK : List (Nat × Nat) → Bool → Bool
  | [], _ => true
  | (r, d) :: t, first => !badD r d && partB r first && goodK t false
def keyB (s : ByteArray) : Bool := decide (0 < s.size) && decide (s.size ≤ 24) && goodK (prs s 0) true
theorem size_pos_str (s : ByteArray) (h : 0 < s.size) : (s.toList = []) = False := by
  rw [Lib.toList_data]
  have : s.data.toList.length = s.size := Array.length_toList
  simp only [eq_iff_iff, iff_false]
  intro e
  rw [e] at this
  simp at this
  omega

set_option maxRecDepth 100000 in
set_option maxHeartbeats 1000000 in
theorem runes_Key (s : ByteArray) (hs : s.size ≤ maxLen) (w : World) (hT : Tabs w) : Calls Tryd.prog 27 #[.string s] w fun e w' => e = .returned (.bool (keyB s)) ∧ Below w.heap.size w w' := by
  have hs' := hs
  unfold maxLen at hs'
  by_cases h0 : s.size = 0
  · have hl : s.toList = [] := by
      rw [Lib.toList_data]
      exact List.eq_nil_of_length_eq_zero (by rw [Array.length_toList]; exact h0)
    have hl2 : (!s.toList.isEmpty) = false := by rw [hl]; rfl
    have H : Hid (keyB s = false) := Lib.hid (by unfold keyB; simp [h0])
    clear hT
    go_enter Tryd.func27, Tryd.ntmps27
    go_wp2_with fail
    go_ret
    exact ⟨ret_b H.out.symm, Below.refl _ _⟩
  have hne := size_pos_str s (by omega)
  have hne2 : s.toList.isEmpty = false := by
    cases h : s.toList with
    | nil => rw [hne] at h; exact h.elim
    | cons _ _ => rfl
  by_cases h24 : 24 < s.size
  · have hd : decide (24 < (s.size : Int)) = true := by simp; omega
    have H : Hid (keyB s = false) := Lib.hid (by unfold keyB; simp; omega)
    clear hT
    go_enter Tryd.func27, Tryd.ntmps27
    go_wp2_with fail
    go_ret
    exact ⟨ret_b H.out.symm, Below.refl _ _⟩
  have hd : decide (24 < (s.size : Int)) = false := by simp; omega
  have H : Hid (keyB s = goodK (prs s 0) true) := Lib.hid (by unfold keyB; simp; omega)
  have HT := Lib.hid hT
  clear hT
  go_enter Tryd.func27, Tryd.ntmps27
  go_wp2_with fail
  clear hne hne2
  go_loopw [3, 4] (fun _ _ wr => ∃ k : Nat, It wr w.heap.size s k ∧ w.heap.size < wr.heap.size ∧ Below w.heap.size w wr ∧ goodK (prs s k) (k == 0) = keyB s) (fun _ _ wr => s.size - wr.iterPos w.heap.size)
  case atStart => exact ⟨0, It.new _ _ _, (It.new _ _ _).lt, below_iter (Below.refl _ _) (Nat.le_refl _) _ _, by rw [H.out]; rfl⟩
  case round =>
    obtain ⟨k, BI, hlt, hB, hg⟩ := hrel
    have hpos := BI.pos
    have HG := Lib.hid hg
    clear hg
    by_cases hk : k < s.size
    · obtain ⟨r, d, hD, hd1, hr, _⟩ := decode_some s k hk
      have hnx : ∀ ty, (Instr.next (.pointer (some ⟨w.heap.size, 0, none⟩)) true ty).run Tryd.prog wr = .ok (.tuple #[.bool true, .int .i64 k, .int .i32 r]) (wr.iterAt w.heap.size s (k + d)) := by
        intro ty
        rw [Lib.run_next_any_at wr _ s k ty BI hk, hD]
      have BI2 := BI.at_ (k + d)
      have hB2 := Lib.below_iterAt hB (k := w.heap.size) (Nat.le_refl _) s (k + d)
      have hlt2 := BI2.lt
      have hpc := prs_cons s k hk hD hd1
      have HC := Lib.hid (runes_bad s k r d hD hk hs (wr.iterAt w.heap.size s (k + d)) (HT.out.below hB2))
      have HPC := Lib.hid hpc
      have HPOS := Lib.hid hpos
      clear hD hpc BI hB hlt hpos
      generalize wr.iterAt w.heap.size s (k + d) = w2 at *
      go_wp2_with fail
      refine HC.out.mono ?_
      clear HC hnx
      rintro e w3 ⟨rfl, b3⟩
      replace BI2 := BI2.below b3 hlt2
      replace hB2 := hB2.trans (b3.mono hB2.size)
      replace hlt2 := Nat.lt_of_lt_of_le hlt2 b3.size
      clear b3
      obtain ⟨q1, hq1⟩ : ∃ q1, badD r d = q1 := ⟨_, rfl⟩
      have HQ1 := Lib.hid hq1
      rw [hq1]
      clear hq1
      cases q1
      case true =>
        go_wp2_with fail
        go_ret
        exact ⟨ret_b (by rw [← HG.out, HPC.out, goodK, HQ1.out]; rfl), hB2⟩
      obtain ⟨f0, hf0⟩ : ∃ f0 : Bool, (k == 0) = f0 := ⟨_, rfl⟩
      have hf1 : ((k : Int) == 0) = f0 := by rw [← hf0, Bool.eq_iff_iff]; simp
      have HF0 := Lib.hid hf0
      clear hf0
      go_wp2_with fail
      refine (runes_part r f0 w3 hr).mono ?_
      rintro e w4 ⟨rfl, rfl⟩
      obtain ⟨q2, hq2⟩ : ∃ q2, partB r f0 = q2 := ⟨_, rfl⟩
      have HQ2 := Lib.hid hq2
      rw [hq2]
      clear hq2 hf1
      cases q2
      case false =>
        go_wp2_with fail
        go_ret
        exact ⟨ret_b (by rw [← HG.out, HPC.out, goodK, HQ1.out, HF0.out, HQ2.out]; rfl), hB2⟩
      go_wp2_with fail
      go_roundw
      case rel =>
        refine ⟨k + d, BI2, hlt2, hB2, ?_⟩
        rw [← HG.out, HPC.out, goodK, HQ1.out, HF0.out, HQ2.out]
        rw [show (k + d == 0) = false by simp; omega]
        simp
      case measure => rw [BI2.pos, HPOS.out]; omega
    · have hnx : ∀ ty, (Instr.next (.pointer (some ⟨w.heap.size, 0, none⟩)) true ty).run Tryd.prog wr = .ok (.tuple #[.bool false]) wr := fun ty => Lib.run_next_end_at wr _ s k ty BI hk
      go_wp2_with fail
      go_ret
      exact ⟨ret_b (by rw [← HG.out, prs_end s k (by omega)]; rfl), hB⟩
end Go.Proofs.YtncdchhpdbmfcaaDoor
