/- The form of a slice that reads as a list of cells. No program is named here, and nothing is assumed. -/
import Derived.Test.YtfebncpfhdgkpaaDoorWords
namespace Go.Proofs.YtfebncpfhdgkpaaDoor
open Go.RowKit Go.Sort

theorem Reads.form {w : World} {B n : Nat} {A : Option Addr} {xs : List Value} (h : Reads w B 1 A n xs) (hn : 0 < n) : ∃ b off, A = some ⟨b, off, none⟩ ∧ b < B ∧ ∀ j u, xs[j]? = some u → w.cell? ⟨b, off + j, none⟩ = some u := by
  obtain ⟨ad, e, hb, hc⟩ := h.2 hn
  have hl : 0 < xs.length := by have := h.1; omega
  have h0 := hc 0 _ (List.getElem?_eq_getElem hl)
  obtain ⟨b, off, spot⟩ := ad
  have hs : spot = none := by simpa [Addr.add] using World.cell?_spot h0
  subst hs
  refine ⟨b, off, e, hb, fun j u hu => ?_⟩
  rw [← add_lit]
  exact hc j u hu
end Go.Proofs.YtfebncpfhdgkpaaDoor
