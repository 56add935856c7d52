/- A text's runes as a slice. -/
import Derived.Test.YtfkooohnaodjmaaRunes
import Derived.Laws.IdiomStrings
namespace Go.Proofs.Ytfkooohnaodjmaa
open Go.RowKit Go.Sort

def rv (r : Nat) : Value := .int .i32 (r : Int)
/-- A text's runes as a slice: its room, and the world behind it. -/
def rnC (s : ByteArray) (w : World) : Nat := grownCap w (rest s 0).length 0 21
def rnW (s : ByteArray) (w : World) : World := w.drew.alloc (.cells (((rest s 0).map rv).toArray ++ Array.replicate (rnC s w - (rest s 0).length) (.int .i32 0)) 21)
theorem conv_runes (s : ByteArray) (hs : s.size ≤ 70368744177664) (w : World) : (convert 9 91 (.string s)).run Try.prog w = .ok (.slice (some ⟨w.heap.size, 0, none⟩) (rest s 0).length (rnC s w)) (rnW s w) := by
  have hrl := rest_length s 0
  have hcv := run_runes_of_string (P := Try.prog) w 9 91 21 s Try.underlying9 Try.underlying91 Try.underlying21 (by rw [runes_all]; simp; omega)
  rw [runes_all] at hcv
  simp only [List.size_toArray, List.length_map] at hcv
  exact hcv
theorem rnW_size (s : ByteArray) (w : World) : (rnW s w).heap.size = w.heap.size + 1 := by unfold rnW; simp
theorem rnW_below (s : ByteArray) (w : World) : Below w.heap.size w (rnW s w) := (below_drewN (Below.refl _ _) 1).alloc (Nat.le_refl _) _
theorem rnW_cell (s : ByteArray) (w : World) (j r : Nat) (h : (rest s 0)[j]? = some r) : (rnW s w).cell? ⟨w.heap.size, j, none⟩ = some (rv r) := by
  have hB := Blk.new w.drew 21 (((rest s 0).map rv).toArray ++ Array.replicate (rnC s w - (rest s 0).length) (.int .i32 0))
  have hj := (List.getElem?_eq_some_iff.1 h).1
  have := hB.cell j
  rw [Array.getElem?_append_left (by simpa using hj)] at this
  refine Eq.trans this ?_
  simp [h]
theorem rnC_le (s : ByteArray) (w : World) : (rest s 0).length ≤ rnC s w := grownCap_ge w _ 0 _
end Go.Proofs.Ytfkooohnaodjmaa
