/- A number's text. -/
import Derived.Test.YtfebncpfhdgkpaaNumsA
namespace Go.Proofs.Ytfebncpfhdgkpaa
open Go.RowKit

def num (n : Int) : List UInt8 := dec (cut50 n).toNat
theorem num_length (n : Int) : (num n).length ≤ 16 := dec_length _ (by have := cut50_range n; omega)
end Go.Proofs.Ytfebncpfhdgkpaa
