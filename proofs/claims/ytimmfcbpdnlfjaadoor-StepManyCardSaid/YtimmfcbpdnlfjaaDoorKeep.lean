/- More small laws that carry facts over a step of a walk. No program is named here, and nothing is assumed. -/
import Derived.Test.YtimmfcbpdnlfjaaDoorWords
namespace Go.Proofs.YtimmfcbpdnlfjaaDoor
open Go.RowKit Go.Sort

theorem own_sep {B : Nat} {v v2 : Value} (h : ∀ k, v.ownBlock = some k → k < B) (h2 : ∀ k, v2.ownBlock = some k → B ≤ k) : v.ownBlock = none ∨ v.ownBlock ≠ v2.ownBlock := by
  rcases e : v.ownBlock with _ | k
  · exact .inl rfl
  · exact .inr (fun e2 => by have := h k e; have := h2 k e2.symm; omega)
theorem hb_cell {w w' : World} {p : Addr} {v : Value} (h : Below w.heap.size w w') (q : w.cell? p = some v) : w'.cell? p = some v := (h.cell (block_lt_of_cell q)).trans q

theorem Reads.takeN {w : World} {B n size : Nat} {A : Option Addr} {xs : List Value} (h : Reads w B size A n xs) (k : Nat) (hk : k ≤ n) : Reads w B size A k (xs.take (k * size)) := by
  have hks : k * size ≤ n * size := Nat.mul_le_mul_right _ hk
  refine ⟨by rw [List.length_take, h.1]; omega, fun h0 => ?_⟩
  obtain ⟨ad, hA, hb, hc⟩ := h.2 (by omega)
  refine ⟨ad, hA, hb, fun j u hu => hc j u ?_⟩
  have hj := (List.getElem?_eq_some_iff.1 hu).1
  rw [List.length_take] at hj
  rw [List.getElem?_take_of_lt (by omega)] at hu
  exact hu
theorem own_base {w : World} {base base' size n : Nat} {e : TypeId} {v : Value} {xs : List Value} (h : w.ownsRow base e size v n xs) (hb : base' ≤ base) : w.ownsRow base' e size v n xs := by
  refine ⟨h.1, ?_⟩
  rcases h.2 with h2 | ⟨g, cap, cur, hv, hg, r⟩
  · exact .inl h2
  · exact .inr ⟨g, cap, cur, hv, by omega, r⟩
end Go.Proofs.YtimmfcbpdnlfjaaDoor
