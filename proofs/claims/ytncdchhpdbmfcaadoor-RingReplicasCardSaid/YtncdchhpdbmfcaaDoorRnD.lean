/- Plain: the words of a line; the bytes of a rune. No program is named here. Contracts of runes.end and runes.Words. Contract of runes.Words. -/
import Derived.Test.YtncdchhpdbmfcaaDoorRunes
import Derived.Lib.SpaceUEq
import Derived.Lib.TrimUEq
import Derived.Test.YtncdchhpdbmfcaaDoorStrs
import Derived.Test.YtncdchhpdbmfcaaDoorKeep
import Derived.Lib.OthersKept
import Derived.Deep.Cut
import Derived.Deep.DeepMust
namespace Go.Proofs.YtncdchhpdbmfcaaDoor
open Go.Lib

theorem bl_get (s : ByteArray) (k : Nat) (hk : k < s.size) : (bl s)[k]'(by rw [bl_length]; exact hk) = s[k] := rfl
theorem get!_eq (s : ByteArray) (k : Nat) (hk : k < s.size) : s.get! k = s[k] := by
  show s.data[k]! = s.data[k]
  rw [getElem!_pos s.data k hk]
/-- The bytes behind a rune's first one are none below 128; it ends within the text. -/
theorem rune_tail (s : ByteArray) (k : Nat) (hk : k < s.size) {r d : Nat} (hD : Utf8.decode s k = (r, d)) : k + d ≤ s.size ∧ ∀ j (_ : k < j) (_ : j < k + d) (h3 : j < s.size), 128 ≤ s[j].toNat := by
  rw [decode_at] at hD
  obtain ⟨h1, h2, h3, h4⟩ := decodeN_conts (s.size - k) (s.get! k).toNat (s.get! (k + 1)).toNat (s.get! (k + 2)).toNat (s.get! (k + 3)).toNat
  rw [hD] at h1 h2 h3 h4
  dsimp only at h1 h2 h3 h4
  refine ⟨?_, fun j hj1 hj2 hj3 => ?_⟩
  · rcases Nat.lt_or_ge d 2 with h | h
    · omega
    · have := (h1 h).2
      rcases Nat.lt_or_ge d 3 with h | h
      · omega
      · have := (h2 h).2
        rcases Nat.lt_or_ge d 4 with h | h
        · omega
        · have := (h3 h).2
          omega
  · have hc : j = k + 1 ∨ j = k + 2 ∨ j = k + 3 := by omega
    rcases hc with rfl | rfl | rfl
    · have := (h1 (by omega)).1
      rw [get!_eq s _ hj3] at this
      omega
    · have := (h2 (by omega)).1
      rw [get!_eq s _ hj3] at this
      omega
    · have := (h3 (by omega)).1
      rw [get!_eq s _ hj3] at this
      omega

/-- Where the word ends whose bytes from the place i on are these. -/
def wend (q : Bool) : Bool → Nat → List UInt8 → Nat
  | _, i, [] => i
  | true, i, _ :: r => wend q false (i + 1) r
  | false, i, c :: r => if q = true ∧ c = 92 then wend q true (i + 1) r else if q = true ∧ c = 34 then i + 1 else if q = false ∧ c = 32 then i else wend q false (i + 1) r
def endP : List UInt8 → Nat
  | [] => 0
  | c :: r => wend (c == 34) false 1 r
theorem wend_cons (q : Bool) (i : Nat) (c : UInt8) (r : List UInt8) : wend q false i (c :: r) = if q = true ∧ c = 92 then wend q true (i + 1) r else if q = true ∧ c = 34 then i + 1 else if q = false ∧ c = 32 then i else wend q false (i + 1) r := rfl
theorem wend_esc (q : Bool) (i : Nat) (c : UInt8) (r : List UInt8) : wend q true i (c :: r) = wend q false (i + 1) r := rfl
theorem wend_le (q : Bool) : ∀ (l : List UInt8) (esc : Bool) (i : Nat), i ≤ wend q esc i l ∧ wend q esc i l ≤ i + l.length
  | [], esc, i => by cases esc <;> simp [wend]
  | c :: r, true, i => by
    have := wend_le q r false (i + 1)
    simp only [wend, List.length_cons]
    omega
  | c :: r, false, i => by
    have h1 := wend_le q r false (i + 1)
    have h2 := wend_le q r true (i + 1)
    unfold wend
    simp only [List.length_cons]
    split
    · omega
    · split
      · omega
      · split
        · omega
        · omega
theorem endP_le (l : List UInt8) : endP l ≤ l.length ∧ (l ≠ [] → 1 ≤ endP l) := by
  cases l with
  | nil => simp [endP]
  | cons c r =>
    have := wend_le (c == 34) r false 1
    simp only [endP, List.length_cons]
    exact ⟨by omega, fun _ => by omega⟩
theorem wend_high (q : Bool) (c : UInt8) (r : List UInt8) (i : Nat) (h : 128 ≤ c.toNat) : wend q false i (c :: r) = wend q false (i + 1) r := by
  have h1 : c ≠ 92 := by rintro rfl; simp at h
  have h2 : c ≠ 34 := by rintro rfl; simp at h
  have h3 : c ≠ 32 := by rintro rfl; simp at h
  rw [wend_cons, if_neg (fun h => h1 h.2), if_neg (fun h => h2 h.2), if_neg (fun h => h3 h.2)]
theorem wend_skip (q : Bool) : ∀ (m : Nat) (l : List UInt8) (i : Nat), m ≤ l.length → (∀ j (_ : j < m) (h2 : j < l.length), 128 ≤ l[j].toNat) → wend q false i l = wend q false (i + m) (l.drop m)
  | 0, l, i, _, _ => rfl
  | m + 1, [], i, h, _ => by simp at h
  | m + 1, c :: r, i, hl, h => by
    have h0 := h 0 (by omega) (by simp)
    rw [wend_high q c r i (by simpa using h0), wend_skip q m r (i + 1) (by simpa using hl) (fun j hj h2 => by
      have := h (j + 1) (by omega) (by simpa using h2)
      simpa using this)]
    rw [List.drop_succ_cons, show i + 1 + m = i + (m + 1) by omega]
/-- Behind a whole rune that is no sign of its own. -/
theorem wend_rune (q : Bool) (s : ByteArray) (k : Nat) (hk : k < s.size) {r d : Nat} (hD : Utf8.decode s k = (r, d)) (hd : 1 ≤ d) : wend q false (k + 1) ((bl s).drop (k + 1)) = wend q false (k + d) ((bl s).drop (k + d)) := by
  obtain ⟨h1, h2⟩ := rune_tail s k hk hD
  have hl := bl_length s
  rw [wend_skip q (d - 1) ((bl s).drop (k + 1)) (k + 1) (by rw [List.length_drop]; omega) (fun j hj h3 => by
    rw [List.getElem_drop, bl_get s _ (by omega)]
    exact h2 _ (by omega) (by omega) (by omega))]
  rw [List.drop_drop, show k + 1 + (d - 1) = k + d by omega]
theorem bl_drop (s : ByteArray) (k : Nat) (hk : k < s.size) : (bl s).drop k = s[k] :: (bl s).drop (k + 1) := by
  rw [List.drop_eq_getElem_cons (by rw [bl_length]; exact hk), bl_get s k hk]

def wordsF : Nat → List UInt8 → List (List UInt8)
  | 0, _ => []
  | _ + 1, [] => []
  | f + 1, c :: r => if c = 32 then wordsF f r else (c :: r).take (endP (c :: r)) :: wordsF f ((c :: r).drop (endP (c :: r)))
theorem wordsF_cons (f : Nat) (c : UInt8) (r : List UInt8) : wordsF (f + 1) (c :: r) = if c = 32 then wordsF f r else (c :: r).take (endP (c :: r)) :: wordsF f ((c :: r).drop (endP (c :: r))) := rfl
theorem wordsF_fuel : ∀ (f g : Nat) (l : List UInt8), l.length ≤ f → l.length ≤ g → wordsF f l = wordsF g l
  | 0, 0, _, _, _ => rfl
  | 0, g + 1, l, h, _ => by
    have : l = [] := List.eq_nil_of_length_eq_zero (by omega)
    subst this
    rfl
  | f + 1, 0, l, _, h => by
    have : l = [] := List.eq_nil_of_length_eq_zero (by omega)
    subst this
    rfl
  | f + 1, g + 1, [], _, _ => rfl
  | f + 1, g + 1, c :: r, h1, h2 => by
    have he := (endP_le (c :: r)).2 (by simp)
    simp only [List.length_cons] at h1 h2
    rw [wordsF_cons, wordsF_cons]
    rw [wordsF_fuel f g r (by omega) (by omega), wordsF_fuel f g _ (by rw [List.length_drop, List.length_cons]; omega) (by rw [List.length_drop, List.length_cons]; omega)]
/-- The words of a line. -/
def wordsP (l : List UInt8) : List (List UInt8) := wordsF l.length l
theorem wordsP_nil : wordsP [] = [] := rfl
theorem wordsP_blank (r : List UInt8) : wordsP (32 :: r) = wordsP r := by
  unfold wordsP
  rw [List.length_cons, wordsF_cons, if_pos rfl]
theorem wordsP_word (c : UInt8) (r : List UInt8) (hc : c ≠ 32) : wordsP (c :: r) = (c :: r).take (endP (c :: r)) :: wordsP ((c :: r).drop (endP (c :: r))) := by
  have he := (endP_le (c :: r)).2 (by simp)
  unfold wordsP
  rw [List.length_cons, wordsF_cons, if_neg hc]
  congr 1
  exact wordsF_fuel _ _ _ (by rw [List.length_drop, List.length_cons]; omega) (Nat.le_refl _)
end Go.Proofs.YtncdchhpdbmfcaaDoor

namespace Go.Proofs.YtncdchhpdbmfcaaDoor
open Go.RowKit Go.Sort Go.Lib

theorem ret_i {a b : Int} (h : a = b) : Ending.returned (.int .i64 a) = .returned (.int .i64 b) := by rw [h]
theorem u8_eq_iff (c : UInt8) (n : Nat) (h : n < 256) : c = UInt8.ofNat n ↔ c.toNat = n := by
  constructor
  · rintro rfl
    rw [UInt8.toNat_ofNat', Nat.mod_eq_of_lt h]
  · intro e
    apply UInt8.toNat_inj.1
    rw [UInt8.toNat_ofNat', Nat.mod_eq_of_lt h, e]

/-- What the loop of end knows at the place k. -/
def EndI (l : List UInt8) (q esc : Bool) (k : Nat) : Prop := if k = 0 then esc = false else wend q esc k (l.drop k) = endP l
end Go.Proofs.YtncdchhpdbmfcaaDoor

namespace Go.Proofs.YtncdchhpdbmfcaaDoor
open Go.RowKit Go.Sort Go.Lib

def szOf : Value → Nat
  | .string s => s.size
  | _ => 0
theorem bl_extract (s : ByteArray) (a b : Nat) : bl (s.extract a b) = ((bl s).take b).drop a := by
  unfold bl
  rw [ByteArray.data_extract, Array.toList_extract, List.extract_eq_take_drop]
  rw [List.drop_take]
theorem bl_tail (s : ByteArray) (a : Nat) : bl (s.extract a s.size) = (bl s).drop a := by
  rw [bl_extract, List.take_of_length_le (by rw [bl_length]; exact Nat.le_refl _)]
theorem bl_head (s : ByteArray) (b : Nat) : bl (s.extract 0 b) = (bl s).take b := by rw [bl_extract, List.drop_zero]
theorem sv_bl (s : ByteArray) : sv (bl s) = .string s := by unfold sv; rw [← bl_is]
theorem str_empty (s : ByteArray) (h : s.size = 0) : s.toList = [] := by
  rw [Lib.toList_data]
  exact List.eq_nil_of_length_eq_zero (by rw [Array.length_toList]; exact h)
theorem str_some (s : ByteArray) (h : 0 < s.size) : (s.toList = []) = False ∧ s.toList.isEmpty = false ∧ (!s.toList.isEmpty) = true := by
  have hne : s.toList ≠ [] := by
    rw [Lib.toList_data]
    intro e
    have : s.data.toList.length = s.size := Array.length_toList
    rw [e] at this
    simp at this
    omega
  have h2 : s.toList.isEmpty = false := by
    cases h : s.toList with
    | nil => exact absurd h hne
    | cons _ _ => rfl
  exact ⟨by simp [hne], h2, by rw [h2]; rfl⟩

def FreshS (w : World) (S : List (List UInt8)) (e : Ending) (w' : World) : Prop := ∃ v', e = .returned v' ∧ OwnS w' w.heap.size v' S ∧ Below w.heap.size w w'
theorem OwnS.lt {w : World} {base : Nat} {v : Value} {S : List (List UInt8)} (h : OwnS w base v S) : ∀ k, v.ownBlock = some k → base ≤ k ∧ k < w.heap.size := World.ownsRow.lt h

end Go.Proofs.YtncdchhpdbmfcaaDoor
