/- Contracts of runes.end and runes.Words. -/
import Derived.Test.YthbhbechemnidaaDoorRnP
import Derived.Test.YthbhbechemnidaaDoorStrs
import Derived.Test.YthbhbechemnidaaDoorKeep
import Derived.Lib.OthersKept
import Derived.Deep.Cut
namespace Go.Proofs.YthbhbechemnidaaDoor
open Go.RowKit Go.Sort Go.Lib

theorem ret_i {a b : Int} (h : a = b) : Ending.returned (.int .i64 a) = .returned (.int .i64 b) := by rw [h]
theorem u8_eq_iff (c : UInt8) (n : Nat) (h : n < 256) : c = UInt8.ofNat n ↔ c.toNat = n := by
  constructor
  · rintro rfl
    rw [UInt8.toNat_ofNat', Nat.mod_eq_of_lt h]
  · intro e
    apply UInt8.toNat_inj.1
    rw [UInt8.toNat_ofNat', Nat.mod_eq_of_lt h, e]

/-- What the loop of end knows at the place k. -/
def EndI (l : List UInt8) (q esc : Bool) (k : Nat) : Prop := if k = 0 then esc = false else wend q esc k (l.drop k) = endP l
end Go.Proofs.YthbhbechemnidaaDoor
