/- Contracts of verse.flag, verse.put, and of the reference's flag and Stamp. -/
import Derived.Test.YthbhbechemnidaaDoorMixK
import Derived.Test.YthbhbechemnidaaDoorWireC
import Derived.Test.YthbhbechemnidaaDoorRows1
import Derived.Test.YthbhbechemnidaaDoorRdr
import Derived.Deep.Cut
import Derived.Outline
namespace Go.Proofs.YthbhbechemnidaaDoor
open Go.RowKit Go.Sort

def b01 (b : Bool) : Int := if b then 1 else 0
/-- A stamp's bytes. -/
def sput (s : Int × Int × Int) : List UInt8 := wputI s.1 ++ wputI s.2.1 ++ wputI s.2.2
theorem sput_len (s : Int × Int × Int) (h1 : s.1 ≤ 9223372036854775807) (h2 : s.2.1 ≤ 9223372036854775807) (h3 : s.2.2 ≤ 9223372036854775807) : (sput s).length ≤ 27 := by
  have := wput_length s.1.toNat (by omega)
  have := wput_length s.2.1.toNat (by omega)
  have := wput_length s.2.2.toNat (by omega)
  unfold sput wputI
  simp only [List.length_append]
  omega
theorem wputI_len (x : Int) (h : x ≤ 9223372036854775807) : (wputI x).length ≤ 9 := by
  unfold wputI
  exact wput_length x.toNat (by omega)

/-- The blocks below a bound, but for the row of a slice. -/
def Outer (N : Nat) (v : Value) (k : Nat) : Prop := k < N ∧ v.ownBlock ≠ some k
theorem stand_puts {N : Nat} {w w' : World} {v v1 : Value} (_ : N ≤ w.heap.size) (hl : v1.ownBlock = v.ownBlock ∨ ∃ g, v1.ownBlock = some g ∧ N ≤ g) (h : w.grownBy w' v1.ownBlock) : Stand (Outer N v) w w' :=
  Stand.of_grown h fun k hk hs => by
    obtain ⟨h1, h2⟩ := hs
    rcases hl with e | ⟨g, e, hg⟩
    · exact h2 (e ▸ hk)
    · rw [e] at hk
      injection hk with hk
      omega

theorem grown_undrew {w w' : World} {row : Option Nat} (h : w.drew.grownBy w' row) : w.grownBy w' row := ⟨h.os, h.tape, h.output, h.size, h.block⟩

end Go.Proofs.YthbhbechemnidaaDoor
