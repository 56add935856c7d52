/- Contracts of stamp.Right and of the reference's in and Right. No condition but that the numbers are those of 64 bits. -/
import Derived.Test.YthbhbechemnidaaStampB
namespace Go.Proofs.Ythbhbechemnidaa
open Go.RowKit Go.Sort

/-- May there be such a stamp? -/
def rightB (a b c : Int) : Bool := decide (0 ≤ a ∧ 0 ≤ b ∧ 0 ≤ c ∧ a ≤ 1099511627776 ∧ b ≤ 1099511627776 ∧ c ≤ 1099511627776 ∧ 0 < a + b + c)
def inB (n : Int) : Bool := decide (0 ≤ n ∧ n ≤ 1099511627776)

end Go.Proofs.Ythbhbechemnidaa
