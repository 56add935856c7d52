/- The form of a slice that reads as a list of cells. No program is named here, and nothing is assumed. -/
import Derived.Test.YtimmfcbpdnlfjaaDoorWords
import Derived.WalkSpells
namespace Go.Proofs.YtimmfcbpdnlfjaaDoor
open Go.RowKit Go.Sort

theorem Reads.form {w : World} {B n : Nat} {A : Option Addr} {xs : List Value} (h : Reads w B 1 A n xs) (hn : 0 < n) : ∃ b off, A = some ⟨b, off, none⟩ ∧ b < B ∧ ∀ j u, xs[j]? = some u → w.cell? ⟨b, off + j, none⟩ = some u := by
  obtain ⟨ad, e, hb, hc⟩ := h.2 hn
  have hl : 0 < xs.length := by have := h.1; omega
  have h0 := hc 0 _ (List.getElem?_eq_getElem hl)
  obtain ⟨b, off, spot⟩ := ad
  have hs : spot = none := by simpa [Addr.add] using World.cell?_spot h0
  subst hs
  refine ⟨b, off, e, hb, fun j u hu => ?_⟩
  rw [← add_lit]
  exact hc j u hu
theorem Reads.len {w : World} {B n : Nat} {A : Option Addr} {l : List UInt8} (h : Reads w B 1 A n (l.map vb)) : l.length = n := by have := h.1; simpa using this

def EqRel (w : World) (l1 l2 : List UInt8) (n : Nat) (v13 : Value) (wr : World) : Prop :=
  ∃ k m : Nat, k ≤ n ∧ v13 = .int .i64 k ∧ wr = w.drewN m ∧ l1.take k = l2.take k

theorem take_succ_eq {l1 l2 : List UInt8} {k : Nat} (h : l1.take k = l2.take k) (h1 : k < l1.length) (h2 : k < l2.length) (he : l1[k] = l2[k]) : l1.take (k + 1) = l2.take (k + 1) := by
  rw [List.take_succ_eq_append_getElem h1, List.take_succ_eq_append_getElem h2, h, he]

theorem ret_bool' {a b : Bool} (h : a = b) : Ending.returned (.bool a) = .returned (.bool b) := by rw [h]
end Go.Proofs.YtimmfcbpdnlfjaaDoor
