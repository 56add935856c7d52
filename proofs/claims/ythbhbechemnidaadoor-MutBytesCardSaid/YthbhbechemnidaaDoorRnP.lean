/- Plain: the words of a line; the bytes of a rune. No program is named here. -/
import Derived.Test.YthbhbechemnidaaDoorRunes
import Derived.Lib.SpaceUEq
import Derived.Lib.TrimUEq
namespace Go.Proofs.YthbhbechemnidaaDoor
open Go.Lib

theorem bl_get (s : ByteArray) (k : Nat) (hk : k < s.size) : (bl s)[k]'(by rw [bl_length]; exact hk) = s[k] := rfl
theorem get!_eq (s : ByteArray) (k : Nat) (hk : k < s.size) : s.get! k = s[k] := by
  show s.data[k]! = s.data[k]
  rw [getElem!_pos s.data k hk]
/-- The bytes behind a rune's first one are none below 128; it ends within the text. -/
theorem rune_tail (s : ByteArray) (k : Nat) (hk : k < s.size) {r d : Nat} (hD : Utf8.decode s k = (r, d)) : k + d ≤ s.size ∧ ∀ j (_ : k < j) (_ : j < k + d) (h3 : j < s.size), 128 ≤ s[j].toNat := by
  rw [decode_at] at hD
  obtain ⟨h1, h2, h3, h4⟩ := decodeN_conts (s.size - k) (s.get! k).toNat (s.get! (k + 1)).toNat (s.get! (k + 2)).toNat (s.get! (k + 3)).toNat
  rw [hD] at h1 h2 h3 h4
  dsimp only at h1 h2 h3 h4
  refine ⟨?_, fun j hj1 hj2 hj3 => ?_⟩
  · rcases Nat.lt_or_ge d 2 with h | h
    · omega
    · have := (h1 h).2
      rcases Nat.lt_or_ge d 3 with h | h
      · omega
      · have := (h2 h).2
        rcases Nat.lt_or_ge d 4 with h | h
        · omega
        · have := (h3 h).2
          omega
  · have hc : j = k + 1 ∨ j = k + 2 ∨ j = k + 3 := by omega
    rcases hc with rfl | rfl | rfl
    · have := (h1 (by omega)).1
      rw [get!_eq s _ hj3] at this
      omega
    · have := (h2 (by omega)).1
      rw [get!_eq s _ hj3] at this
      omega
    · have := (h3 (by omega)).1
      rw [get!_eq s _ hj3] at this
      omega

/-- Where the word ends whose bytes from the place i on are these. -/
def wend (q : Bool) : Bool → Nat → List UInt8 → Nat
  | _, i, [] => i
  | true, i, _ :: r => wend q false (i + 1) r
  | false, i, c :: r => if q = true ∧ c = 92 then wend q true (i + 1) r else if q = true ∧ c = 34 then i + 1 else if q = false ∧ c = 32 then i else wend q false (i + 1) r
def endP : List UInt8 → Nat
  | [] => 0
  | c :: r => wend (c == 34) false 1 r
theorem wend_cons (q : Bool) (i : Nat) (c : UInt8) (r : List UInt8) : wend q false i (c :: r) = if q = true ∧ c = 92 then wend q true (i + 1) r else if q = true ∧ c = 34 then i + 1 else if q = false ∧ c = 32 then i else wend q false (i + 1) r := rfl
theorem wend_esc (q : Bool) (i : Nat) (c : UInt8) (r : List UInt8) : wend q true i (c :: r) = wend q false (i + 1) r := rfl
theorem wend_le (q : Bool) : ∀ (l : List UInt8) (esc : Bool) (i : Nat), i ≤ wend q esc i l ∧ wend q esc i l ≤ i + l.length
  | [], esc, i => by cases esc <;> simp [wend]
  | c :: r, true, i => by
    have := wend_le q r false (i + 1)
    simp only [wend, List.length_cons]
    omega
  | c :: r, false, i => by
    have h1 := wend_le q r false (i + 1)
    have h2 := wend_le q r true (i + 1)
    unfold wend
    simp only [List.length_cons]
    split
    · omega
    · split
      · omega
      · split
        · omega
        · omega
theorem endP_le (l : List UInt8) : endP l ≤ l.length ∧ (l ≠ [] → 1 ≤ endP l) := by
  cases l with
  | nil => simp [endP]
  | cons c r =>
    have := wend_le (c == 34) r false 1
    simp only [endP, List.length_cons]
    exact ⟨by omega, fun _ => by omega⟩
theorem wend_high (q : Bool) (c : UInt8) (r : List UInt8) (i : Nat) (h : 128 ≤ c.toNat) : wend q false i (c :: r) = wend q false (i + 1) r := by
  have h1 : c ≠ 92 := by rintro rfl; simp at h
  have h2 : c ≠ 34 := by rintro rfl; simp at h
  have h3 : c ≠ 32 := by rintro rfl; simp at h
  rw [wend_cons, if_neg (fun h => h1 h.2), if_neg (fun h => h2 h.2), if_neg (fun h => h3 h.2)]
theorem wend_skip (q : Bool) : ∀ (m : Nat) (l : List UInt8) (i : Nat), m ≤ l.length → (∀ j (_ : j < m) (h2 : j < l.length), 128 ≤ l[j].toNat) → wend q false i l = wend q false (i + m) (l.drop m)
  | 0, l, i, _, _ => rfl
  | m + 1, [], i, h, _ => by simp at h
  | m + 1, c :: r, i, hl, h => by
    have h0 := h 0 (by omega) (by simp)
    rw [wend_high q c r i (by simpa using h0), wend_skip q m r (i + 1) (by simpa using hl) (fun j hj h2 => by
      have := h (j + 1) (by omega) (by simpa using h2)
      simpa using this)]
    rw [List.drop_succ_cons, show i + 1 + m = i + (m + 1) by omega]
/-- Behind a whole rune that is no sign of its own. -/
theorem wend_rune (q : Bool) (s : ByteArray) (k : Nat) (hk : k < s.size) {r d : Nat} (hD : Utf8.decode s k = (r, d)) (hd : 1 ≤ d) : wend q false (k + 1) ((bl s).drop (k + 1)) = wend q false (k + d) ((bl s).drop (k + d)) := by
  obtain ⟨h1, h2⟩ := rune_tail s k hk hD
  have hl := bl_length s
  rw [wend_skip q (d - 1) ((bl s).drop (k + 1)) (k + 1) (by rw [List.length_drop]; omega) (fun j hj h3 => by
    rw [List.getElem_drop, bl_get s _ (by omega)]
    exact h2 _ (by omega) (by omega) (by omega))]
  rw [List.drop_drop, show k + 1 + (d - 1) = k + d by omega]
theorem bl_drop (s : ByteArray) (k : Nat) (hk : k < s.size) : (bl s).drop k = s[k] :: (bl s).drop (k + 1) := by
  rw [List.drop_eq_getElem_cons (by rw [bl_length]; exact hk), bl_get s k hk]

def wordsF : Nat → List UInt8 → List (List UInt8)
  | 0, _ => []
  | _ + 1, [] => []
  | f + 1, c :: r => if c = 32 then wordsF f r else (c :: r).take (endP (c :: r)) :: wordsF f ((c :: r).drop (endP (c :: r)))
theorem wordsF_cons (f : Nat) (c : UInt8) (r : List UInt8) : wordsF (f + 1) (c :: r) = if c = 32 then wordsF f r else (c :: r).take (endP (c :: r)) :: wordsF f ((c :: r).drop (endP (c :: r))) := rfl
theorem wordsF_fuel : ∀ (f g : Nat) (l : List UInt8), l.length ≤ f → l.length ≤ g → wordsF f l = wordsF g l
  | 0, 0, _, _, _ => rfl
  | 0, g + 1, l, h, _ => by
    have : l = [] := List.eq_nil_of_length_eq_zero (by omega)
    subst this
    rfl
  | f + 1, 0, l, _, h => by
    have : l = [] := List.eq_nil_of_length_eq_zero (by omega)
    subst this
    rfl
  | f + 1, g + 1, [], _, _ => rfl
  | f + 1, g + 1, c :: r, h1, h2 => by
    have he := (endP_le (c :: r)).2 (by simp)
    simp only [List.length_cons] at h1 h2
    rw [wordsF_cons, wordsF_cons]
    rw [wordsF_fuel f g r (by omega) (by omega), wordsF_fuel f g _ (by rw [List.length_drop, List.length_cons]; omega) (by rw [List.length_drop, List.length_cons]; omega)]
/-- The words of a line. -/
def wordsP (l : List UInt8) : List (List UInt8) := wordsF l.length l
theorem wordsP_nil : wordsP [] = [] := rfl
theorem wordsP_blank (r : List UInt8) : wordsP (32 :: r) = wordsP r := by
  unfold wordsP
  rw [List.length_cons, wordsF_cons, if_pos rfl]
theorem wordsP_word (c : UInt8) (r : List UInt8) (hc : c ≠ 32) : wordsP (c :: r) = (c :: r).take (endP (c :: r)) :: wordsP ((c :: r).drop (endP (c :: r))) := by
  have he := (endP_le (c :: r)).2 (by simp)
  unfold wordsP
  rw [List.length_cons, wordsF_cons, if_neg hc]
  congr 1
  exact wordsF_fuel _ _ _ (by rw [List.length_drop, List.length_cons]; omega) (Nat.le_refl _)
end Go.Proofs.YthbhbechemnidaaDoor
