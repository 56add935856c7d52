/- Contracts of slices.Equal and slices.Clone at bytes: whether two rows of bytes are the same; a row of the call's own with the same bytes. Lengths are at most 2^47. -/
import Derived.Test.YtncdchhpdbmfcaaDoorWords
import Derived.Test.YtncdchhpdbmfcaaDoorForm
import Derived.WalkSpells
namespace Go.Proofs.YtncdchhpdbmfcaaDoor
open Go.RowKit Go.Sort

end Go.Proofs.YtncdchhpdbmfcaaDoor
