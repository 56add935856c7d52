/- Contract of runes.Words. -/
import Derived.Test.YthbhbechemnidaaDoorRnC
import Derived.Deep.DeepMust
namespace Go.Proofs.YthbhbechemnidaaDoor
open Go.RowKit Go.Sort Go.Lib

def szOf : Value → Nat
  | .string s => s.size
  | _ => 0
theorem bl_extract (s : ByteArray) (a b : Nat) : bl (s.extract a b) = ((bl s).take b).drop a := by
  unfold bl
  rw [ByteArray.data_extract, Array.toList_extract, List.extract_eq_take_drop]
  rw [List.drop_take]
theorem bl_tail (s : ByteArray) (a : Nat) : bl (s.extract a s.size) = (bl s).drop a := by
  rw [bl_extract, List.take_of_length_le (by rw [bl_length]; exact Nat.le_refl _)]
theorem bl_head (s : ByteArray) (b : Nat) : bl (s.extract 0 b) = (bl s).take b := by rw [bl_extract, List.drop_zero]
theorem sv_bl (s : ByteArray) : sv (bl s) = .string s := by unfold sv; rw [← bl_is]
theorem str_empty (s : ByteArray) (h : s.size = 0) : s.toList = [] := by
  rw [Lib.toList_data]
  exact List.eq_nil_of_length_eq_zero (by rw [Array.length_toList]; exact h)
theorem str_some (s : ByteArray) (h : 0 < s.size) : (s.toList = []) = False ∧ s.toList.isEmpty = false ∧ (!s.toList.isEmpty) = true := by
  have hne : s.toList ≠ [] := by
    rw [Lib.toList_data]
    intro e
    have : s.data.toList.length = s.size := Array.length_toList
    rw [e] at this
    simp at this
    omega
  have h2 : s.toList.isEmpty = false := by
    cases h : s.toList with
    | nil => exact absurd h hne
    | cons _ _ => rfl
  exact ⟨by simp [hne], h2, by rw [h2]; rfl⟩

def FreshS (w : World) (S : List (List UInt8)) (e : Ending) (w' : World) : Prop := ∃ v', e = .returned v' ∧ OwnS w' w.heap.size v' S ∧ Below w.heap.size w w'
theorem OwnS.lt {w : World} {base : Nat} {v : Value} {S : List (List UInt8)} (h : OwnS w base v S) : ∀ k, v.ownBlock = some k → base ≤ k ∧ k < w.heap.size := World.ownsRow.lt h

end Go.Proofs.YthbhbechemnidaaDoor
