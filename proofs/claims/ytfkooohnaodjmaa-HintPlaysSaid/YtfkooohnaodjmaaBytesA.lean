/- Contracts of slices.Equal and slices.Clone at bytes: whether two rows of bytes are the same; a row of the call's own with the same bytes. Lengths are at most 2^47. -/
import Derived.Test.YtfkooohnaodjmaaWords
import Derived.Test.YtfkooohnaodjmaaForm
import Derived.WalkSpells
namespace Go.Proofs.Ytfkooohnaodjmaa
open Go.RowKit Go.Sort

end Go.Proofs.Ytfkooohnaodjmaa
