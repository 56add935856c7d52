/- An array of three texts that came in, opened to plain data. No program is named here, and nothing is assumed. -/
import Derived.Test.YtedegdojbhegdaaDoorWords
import Derived.OpenShut
import Derived.ShutString
import Derived.ChangeOld
import Derived.Lib.SmallJoins
import Derived.Laws.IdiomArrays
namespace Go.Proofs.YtedegdojbhegdaaDoor
open Go.RowKit Go.ChangeShapes Go.WideShapes Go.ChangeAt Go.Joins Go.Deep

section
variable {H : Type} {enc : TypeId × Value → H} {P : Program} {W : World}
theorem okWide_array3 {r : Reach} {base : Nat} {t e : TypeId} {v : Value} {n : Nat} (ht : P.underlying t = some (.array n e)) (h : Value.okWide P W r base t v) : ∃ cs, v = .agg cs ∧ cs.size = P.cellsOf t := by
  simp only [Value.okWide, ht] at h
  obtain ⟨cs, h1, h2, _⟩ := h
  exact ⟨cs, h1, h2⟩
theorem open_tri {r : Reach} {b0 : Nat} {t ts : TypeId} {v : Value} {d : DataW H} {p : List MemPlace} (ht : P.underlying t = some (.array 3 ts)) (hs : P.underlying ts = some .string) (hC : P.cellsOf t = 3) (hc : P.cellsOf ts = 1)
    (hv : Value.okWide P W r b0 t v) (h : DataW.Trod enc P W 0 (fun _ => true) true t v d p) :
    ∃ s0 s1 s2 : ByteArray, v = .agg #[.string s0, .string s1, .string s2] ∧ s0.size ≤ maxLen ∧ s1.size ≤ maxLen ∧ s2.size ≤ maxLen := by
  obtain ⟨cs, rfl, hsz⟩ := okWide_array3 ht hv
  obtain ⟨l⟩ := cs
  rw [hC] at hsz
  obtain ⟨c0, c1, c2, rfl⟩ : ∃ a b c, l = [a, b, c] := by
    match l, hsz with
    | [a, b, c], _ => exact ⟨a, b, c, rfl⟩
  obtain ⟨fuel, hf⟩ := h
  obtain ⟨y0, y1, y2, n, _, h0, h1, h2⟩ := trod_array3 ht hc (by simpa [Value.cells] using hf)
  obtain ⟨s0, e0, _, w0⟩ := DataW.trod_string hs h0
  obtain ⟨s1, e1, _, w1⟩ := DataW.trod_string hs h1
  obtain ⟨s2, e2, _, w2⟩ := DataW.trod_string hs h2
  simp at e0 e1 e2
  subst e0 e1 e2
  exact ⟨s0, s1, s2, rfl, w0, w1, w2⟩
end
end Go.Proofs.YtedegdojbhegdaaDoor
