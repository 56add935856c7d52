/- Contracts of wire.Reader's methods: Fail, Why, At, Left, Num. -/
import Derived.Test.YtfkooohnaodjmaaWireB
import Derived.Test.YtfkooohnaodjmaaPlainR
namespace Go.Proofs.Ytfkooohnaodjmaa
open Go.RowKit Go.Sort

section
variable {w w' : World} {g n c k : Nat} {A : Option Addr} {L : List UInt8} {why : Int}
theorem only_set (w : World) (g i : Nat) (u : Value) : w.grownBy (w.setCell ⟨g, i, none⟩ u) (some g) :=
  ⟨rfl, rfl, rfl, by simp [World.setCell], fun k _ hne => Below.heap_setCell w _ u k (fun e => hne (by rw [e]))⟩
theorem grown_refl (w : World) (row : Option Nat) : w.grownBy w row := World.grownBy.refl w row
theorem grown_drewN (w : World) (m : Nat) (row : Option Nat) : w.grownBy (w.drewN m) row := ⟨rfl, rfl, rfl, Nat.le_refl _, fun _ _ _ => rfl⟩
theorem grown_trans' {a b c : World} {row : Option Nat} (h1 : a.grownBy b row) (h2 : b.grownBy c row) : a.grownBy c row :=
  ⟨h2.os.trans h1.os, h2.tape.trans h1.tape, h2.output.trans h1.output, Nat.le_trans h1.size h2.size, fun k hk hne => (h2.block k (Nat.lt_of_lt_of_le hk h1.size) hne).trans (h1.block k hk hne)⟩
end

end Go.Proofs.Ytfkooohnaodjmaa
