/- The runes of a text, in order. No program is named here, and nothing is assumed. -/
import Derived.Test.YtedegdojbhegdaaDoorIter
import Derived.Laws.IdiomStrings
namespace Go.Proofs.YtedegdojbhegdaaDoor
open Go.RowKit Go.Lib

def rns (s : ByteArray) : Nat → Nat → List Nat
  | 0, _ => []
  | f + 1, i => if i < s.size then (Utf8.decode s i).1 :: rns s f (i + (Utf8.decode s i).2) else []
theorem rns_end (s : ByteArray) (f i : Nat) (h : s.size ≤ i) : rns s f i = [] := by
  cases f with
  | zero => rfl
  | succ f => rw [rns, if_neg (by omega)]
theorem rns_fuel (s : ByteArray) : ∀ (f i : Nat), s.size - i ≤ f → rns s f i = rns s (s.size - i) i
  | 0, i, h => by rw [show s.size - i = 0 by omega]
  | f + 1, i, h => by
    by_cases hi : i < s.size
    · obtain ⟨r, d, hD, hd, _⟩ := decode_some s i hi
      have e : s.size - i = (s.size - i - 1) + 1 := by omega
      rw [e, rns, rns, if_pos hi, if_pos hi, hD]
      simp only
      rw [rns_fuel s f (i + d) (by omega)]
      by_cases h1 : i + d < s.size
      · rw [← rns_fuel s (s.size - i - 1) (i + d) (by omega)]
      · rw [rns_end s _ _ (by omega), rns_end s _ _ (by omega)]
    · rw [rns_end s _ _ (by omega), rns_end s _ _ (by omega)]
  termination_by f _ => f
/-- The runes from a place on. -/
def rest (s : ByteArray) (k : Nat) : List Nat := rns s (s.size - k) k
theorem rest_cons (s : ByteArray) (k : Nat) (h : k < s.size) {r d : Nat} (hD : Utf8.decode s k = (r, d)) (hd : 1 ≤ d) : rest s k = r :: rest s (k + d) := by
  unfold rest
  have e : s.size - k = (s.size - k - 1) + 1 := by omega
  rw [e, rns, if_pos h, hD]
  simp only
  by_cases h1 : k + d < s.size
  · rw [rns_fuel s (s.size - k - 1) (k + d) (by omega)]
  · rw [rns_end s _ _ (by omega), rns_end s _ _ (by omega)]
theorem rest_end (s : ByteArray) (k : Nat) (h : s.size ≤ k) : rest s k = [] := rns_end s _ _ h
theorem runesFrom_eq (s : ByteArray) : ∀ (f i : Nat) (acc : Array Value), Conv.runesFrom s f i acc = acc ++ ((rns s f i).map fun r : Nat => Value.int .i32 (r : Int)).toArray
  | 0, i, acc => by simp [Conv.runesFrom, rns]
  | f + 1, i, acc => by
    unfold Conv.runesFrom
    rw [rns]
    split
    · rcases hD : Utf8.decode s i with ⟨r, d⟩
      simp only
      rw [runesFrom_eq s f]
      simp
    · simp
theorem runes_all (s : ByteArray) : Conv.runesFrom s s.size 0 #[] = ((rest s 0).map fun r : Nat => Value.int .i32 (r : Int)).toArray := by
  rw [runesFrom_eq]
  unfold rest
  simp
theorem rns_length (s : ByteArray) : ∀ (f i : Nat), (rns s f i).length ≤ f
  | 0, _ => by simp [rns]
  | f + 1, i => by
    rw [rns]
    split
    · have := rns_length s f (i + (Utf8.decode s i).2)
      simp; omega
    · simp
theorem rest_length (s : ByteArray) (k : Nat) : (rest s k).length ≤ s.size - k := rns_length s _ _
theorem rns_le (s : ByteArray) : ∀ (f i r : Nat), r ∈ rns s f i → r ≤ 2147483647
  | 0, _, _, h => by simp [rns] at h
  | f + 1, i, r, h => by
    rw [rns] at h
    split at h
    · rcases List.mem_cons.1 h with h | h
      · rw [h]; exact decode_le s i
      · exact rns_le s f _ r h
    · simp at h
theorem rest_le (s : ByteArray) (k r : Nat) (h : r ∈ rest s k) : r ≤ 2147483647 := rns_le s _ _ r h
end Go.Proofs.YtedegdojbhegdaaDoor
