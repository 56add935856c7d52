/- The text of a slice of bytes. No program is named here, and nothing is assumed. -/
import Derived.Test.YtimmfcbpdnlfjaaDoorForm
import Derived.Laws.BytesString
import Derived.Laws.IdiomStrings
namespace Go.Proofs.YtimmfcbpdnlfjaaDoor
open Go.RowKit Go.Sort

/-- 'string(b)' of any bytes, the nil slice's too. -/
theorem run_string_of (w : World) (B : Nat) (A : Option Addr) (n c : Nat) (l : List UInt8) (hr : Reads w B 1 A n (l.map vb)) :
    (convert 59 9 (.slice A n c)).run Tryd.prog w = .ok (.string ⟨l.toArray⟩) w := by
  have hl := hr.len
  cases A with
  | none =>
    have h0 : n = 0 := by
      rcases Nat.eq_zero_or_pos n with h | h
      · exact h
      · obtain ⟨ad, h1, _⟩ := hr.2 h
        cases h1
    subst h0
    have hl0 := List.eq_nil_of_length_eq_zero hl
    subst hl0
    rw [run_convert_bytes_string w 59 9 5 none 0 c Tryd.underlying59 Tryd.underlying5 Tryd.underlying9]
    simp [Conv.bytesToString]
    rfl
  | some ad =>
    subst hl
    refine run_convert_bytes_back w _ _ 5 _ c l Tryd.underlying59 Tryd.underlying5 Tryd.underlying9 fun j hj => ?_
    obtain ⟨ad', h1, _, h3⟩ := hr.2 (by omega)
    injection h1 with h1
    subst h1
    exact h3 j _ (by simp [hj, vb])
end Go.Proofs.YtimmfcbpdnlfjaaDoor
