/- Owned rows of bits (bools). -/
import Derived.Test.YtedegdojbhegdaaDoorHang
import Derived.Test.YtedegdojbhegdaaDoorRows1
namespace Go.Proofs.YtedegdojbhegdaaDoor
open Go.RowKit Go.Sort

theorem info_bool : (Tryd.prog.info? 4).map (fun i => (i.zero, i.size, i.bytes)) = some (some (.bool false), 1, 1) := by kernel_rfl
/-- The slice value v owns just the bits m, in a block from base on. -/
def OwnB (w : World) (base : Nat) (v : Value) (m : List Bool) : Prop := w.ownsRow base 4 1 v m.length (m.map Value.bool)
section
variable {w w' : World} {base : Nat} {v : Value} {m : List Bool}
theorem OwnB.below (h : OwnB w base v m) (hb : Below w.heap.size w w') : OwnB w' base v m := own_below h hb
theorem OwnB.alloc (h : OwnB w base v m) (o : Obj) : OwnB (w.alloc o) base v m := World.ownsRow.alloc h o
theorem OwnB.reads (h : OwnB w base v m) : ∃ A c, v = .slice A m.length c ∧ m.length ≤ c ∧ Reads w w.heap.size 1 A m.length (m.map Value.bool) := by
  obtain ⟨A, c, hv, hc, _, _⟩ := own_form h
  subst hv
  exact ⟨A, c, rfl, hc, Reads.of_own h⟩
theorem OwnB.kept {row : Option Nat} (h : OwnB w base v m) (hg : w.grownBy w' row) (hne : v.ownBlock = none ∨ v.ownBlock ≠ row) : OwnB w' base v m := World.ownsRow.kept h hg hne
theorem OwnB.len_eq {g n cap : Nat} (h : OwnB w base (.slice (some ⟨g, 0, none⟩) n cap) m) : n = m.length ∧ g < w.heap.size := by
  obtain ⟨A, c, hv, _⟩ := own_form h
  injection hv with _ h2 _
  exact ⟨h2, (World.ownsRow.lt h g rfl).2⟩
theorem OwnB.cell_at {g n cap : Nat} (h : OwnB w base (.slice (some ⟨g, 0, none⟩) n cap) m) (i : Nat) (hi : i < m.length) : w.cell? ⟨g, i, none⟩ = some (.bool m[i]) := by
  have hn := h.len_eq.1
  subst hn
  have h1 := World.ownsRow.cellAt (n := m.length) h i (by omega)
  rw [h1]
  simp [hi]
theorem OwnB.frozen_at {g n cap : Nat} (h : OwnB w base (.slice (some ⟨g, 0, none⟩) n cap) m) (i : Nat) : w.frozen? ⟨g, i, none⟩ = false := by
  have hn := h.len_eq.1
  subst hn
  exact World.ownsRow.frozenAt (n := m.length) h i
theorem OwnB.set_at {g n cap : Nat} (h : OwnB w base (.slice (some ⟨g, 0, none⟩) n cap) m) (i : Nat) (b : Bool) :
    OwnB (w.setCell ⟨g, i, none⟩ (.bool b)) base (.slice (some ⟨g, 0, none⟩) n cap) (m.set i b) ∧ w.grownBy (w.setCell ⟨g, i, none⟩ (.bool b)) (some g) := by
  have hn := h.len_eq.1
  subst hn
  have h1 := World.ownsRow.stored (n := m.length) h i (.bool b)
  refine ⟨?_, h1.2⟩
  unfold OwnB
  rw [List.length_set, List.map_set]
  exact h1.1
end
end Go.Proofs.YtedegdojbhegdaaDoor
