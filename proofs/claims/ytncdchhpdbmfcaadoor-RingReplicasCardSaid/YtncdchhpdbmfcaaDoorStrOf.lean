/- The text of a slice of bytes. No program is named here, and nothing is assumed. -/
import Derived.Test.YtncdchhpdbmfcaaDoorForm
import Derived.Laws.BytesString
import Derived.Laws.IdiomStrings
namespace Go.Proofs.YtncdchhpdbmfcaaDoor
open Go.RowKit Go.Sort

end Go.Proofs.YtncdchhpdbmfcaaDoor
