/- Contracts of verse.flag, verse.put, and of the reference's flag and Stamp. Contracts of the reference's Stamp and stamp, and of verse.right. -/
import Derived.Test.YthbhbechemnidaaMixK
import Derived.Test.YthbhbechemnidaaWireC
import Derived.Test.YthbhbechemnidaaRows1
import Derived.Test.YthbhbechemnidaaRdr
import Derived.Deep.Cut
import Derived.Outline
import Derived.Test.YthbhbechemnidaaStampD
import Derived.Deep.DeepMust
namespace Go.Proofs.Ythbhbechemnidaa
open Go.RowKit Go.Sort

def b01 (b : Bool) : Int := if b then 1 else 0
/-- A stamp's bytes. -/
def sput (s : Int × Int × Int) : List UInt8 := wputI s.1 ++ wputI s.2.1 ++ wputI s.2.2
theorem sput_len (s : Int × Int × Int) (h1 : s.1 ≤ 9223372036854775807) (h2 : s.2.1 ≤ 9223372036854775807) (h3 : s.2.2 ≤ 9223372036854775807) : (sput s).length ≤ 27 := by
  have := wput_length s.1.toNat (by omega)
  have := wput_length s.2.1.toNat (by omega)
  have := wput_length s.2.2.toNat (by omega)
  unfold sput wputI
  simp only [List.length_append]
  omega
theorem wputI_len (x : Int) (h : x ≤ 9223372036854775807) : (wputI x).length ≤ 9 := by
  unfold wputI
  exact wput_length x.toNat (by omega)

/-- The blocks below a bound, but for the row of a slice. -/
def Outer (N : Nat) (v : Value) (k : Nat) : Prop := k < N ∧ v.ownBlock ≠ some k
theorem stand_puts {N : Nat} {w w' : World} {v v1 : Value} (_ : N ≤ w.heap.size) (hl : v1.ownBlock = v.ownBlock ∨ ∃ g, v1.ownBlock = some g ∧ N ≤ g) (h : w.grownBy w' v1.ownBlock) : Stand (Outer N v) w w' :=
  Stand.of_grown h fun k hk hs => by
    obtain ⟨h1, h2⟩ := hs
    rcases hl with e | ⟨g, e, hg⟩
    · exact h2 (e ▸ hk)
    · rw [e] at hk
      injection hk with hk
      omega

theorem grown_undrew {w w' : World} {row : Option Nat} (h : w.drew.grownBy w' row) : w.grownBy w' row := ⟨h.os, h.tape, h.output, h.size, h.block⟩

end Go.Proofs.Ythbhbechemnidaa

namespace Go.Proofs.Ythbhbechemnidaa
open Go.RowKit Go.Sort

theorem stand_low {N : Nat} {w w' : World} (h : Below N w w') (_ : N ≤ w.heap.size) : Stand (· < N) w w' := ⟨h.os, h.tape, h.output, h.size, fun k _ hs => h.block k hs⟩
theorem stand_own {N base : Nat} {w w' : World} {v : Value} {l : List UInt8} (hO : Own w base v l) (hb : N ≤ base) (h : w.grownBy w' v.ownBlock) : Stand (· < N) w w' :=
  Stand.of_grown h fun k hk hs => by have := (hO.lt k hk).1; omega
theorem below_undrew {B : Nat} {w w' : World} (h : Below B w.drew w') : Below B w w' := ⟨h.os, h.tape, h.output, h.size, h.block⟩

/-- May a stamp be kept: one that may be, or none? -/
def sokB (a b c : Int) : Bool := (a == 0 && b == 0 && c == 0) || rightB a b c
end Go.Proofs.Ythbhbechemnidaa
