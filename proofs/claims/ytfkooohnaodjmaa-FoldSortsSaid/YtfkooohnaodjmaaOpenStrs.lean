/- A slice of strings opened to plain data. No program is named here, and nothing is assumed. -/
import Derived.Test.YtfkooohnaodjmaaOpen
import Derived.SliceStrings
namespace Go.Proofs.Ytfkooohnaodjmaa
open Go.RowKit Go.ChangeShapes Go.WideShapes Go.ChangeAt Go.Joins Go.Deep

section
variable {H : Type} {enc : TypeId × Value → H} {P : Program} {W : World}

theorem open_strs_list {r : Reach} {base : Nat} {t e : TypeId} {v : Value} {d : DataW H} {p : List MemPlace} (ht : P.underlying t = some (.slice e)) (he : P.underlying e = some .string) (hc : P.cellsOf e = 1)
    (hv : Value.okWide P W r base t v) (h : DataW.Trod enc P W 0 (fun _ => true) true t v d p) :
    ∃ (A : Option Addr) (n c : Nat) (K : List ByteArray), v = .slice A n c ∧ n ≤ c ∧ c ≤ maxLen ∧ K.length = n ∧ Reads W W.heap.size 1 A n (K.map Value.string) ∧ (∀ s ∈ K, s.size ≤ maxLen) ∧ (A = none → c = 0) := by
  obtain ⟨a0, len0, cap0, rfl⟩ := okWide_slice ht hv
  obtain ⟨fuel, hf⟩ := h
  rcases open_strings ht he hc hf with ⟨hcs, _⟩ | ⟨x, l, c, zs, hcs, _, hl, hm, hz, _, hcell, hwz⟩
  · simp [Value.cells] at hcs
    obtain ⟨rfl, rfl, rfl⟩ := hcs
    exact ⟨none, 0, 0, [], rfl, Nat.le_refl _, by simp, rfl, Reads.none_, by simp, fun _ => rfl⟩
  · simp [Value.cells] at hcs
    obtain ⟨rfl, rfl, rfl⟩ := hcs
    have hz' : zs.length = cap0 := by simpa using hz
    refine ⟨some x, len0, cap0, zs.take len0, rfl, hl, hm, by simp; omega, ⟨by simp; omega, fun hn => ⟨x, rfl, ?_, ?_⟩⟩, fun y hy => hwz y (List.mem_of_mem_take hy), fun h => by cases h⟩
    · have h0 := World.block_lt_of_cell? W _ (hcell 0 (by omega))
      rwa [block_of_add] at h0
    · intro j u hu
      obtain ⟨z, hz1, hz2⟩ := (List.getElem?_map (f := Value.string) (l := zs.take len0) (i := j)) ▸ hu |> Option.map_eq_some_iff.1
      have hj := (List.getElem?_eq_some_iff.1 hz1).1
      have hjl : j < zs.length := by simp at hj; omega
      rw [hcell j hjl, ← hz2]
      rw [List.getElem?_take] at hz1
      split at hz1
      · rw [List.getD_eq_getElem?_getD, hz1]; rfl
      · cases hz1
end
end Go.Proofs.Ytfkooohnaodjmaa
