/- Cells stored one after the other into a block; a row of tables is no block of versions. -/
import Derived.Test.YtedegdojbhegdaaVerG
import Derived.Test.YtedegdojbhegdaaKeep
namespace Go.Proofs.Ytedegdojbhegdaa
open Go.RowKit Go.Sort

def setL (w : World) (g i : Nat) : List Value → World
  | [] => w
  | x :: xs => setL (w.setCell ⟨g, i, none⟩ x) g (i + 1) xs
def setA (cs : Array Value) (i : Nat) : List Value → Array Value
  | [] => cs
  | x :: xs => setA (cs.setIfInBounds i x) (i + 1) xs
theorem setL_blk {t : TypeId} (g : Nat) : ∀ (xs : List Value) (i : Nat) {w : World} {cs : Array Value}, Blk w g t cs → Blk (setL w g i xs) g t (setA cs i xs)
  | [], _, _, _, h => h
  | x :: xs, i, _, _, h => setL_blk g xs (i + 1) (h.set_ i x)
theorem setL_far {t : TypeId} {g g' : Nat} (hg : g' ≠ g) {cs : Array Value} : ∀ (xs : List Value) (i : Nat) {w : World}, Blk w g' t cs → Blk (setL w g i xs) g' t cs
  | [], _, _, h => h
  | x :: xs, i, _, h => setL_far hg xs (i + 1) (h.far (p := ⟨g, i, none⟩) hg x)
theorem setL_below {N g : Nat} (hg : N ≤ g) {a : World} : ∀ (xs : List Value) (i : Nat) {w : World}, Below N a w → Below N a (setL w g i xs)
  | [], _, _, h => h
  | x :: xs, i, _, h => setL_below hg xs (i + 1) (h.setCell (p := ⟨g, i, none⟩) hg x)
theorem setL_grown (g : Nat) : ∀ (xs : List Value) (i : Nat) (w : World), w.grownBy (setL w g i xs) (some g)
  | [], _, _ => ⟨rfl, rfl, rfl, Nat.le_refl _, fun _ _ _ => rfl⟩
  | x :: xs, i, w => grown_trans' (only_set w g i x) (setL_grown g xs (i + 1) _)
theorem setL13 (w : World) (g : Nat) (a0 a1 a2 a3 a4 a5 a6 a7 a8 a9 a10 a11 a12 : Value) : setL w g 0 [a0, a1, a2, a3, a4, a5, a6, a7, a8, a9, a10, a11, a12] = (((((((((((((w.setCell ⟨g, 0, none⟩ a0).setCell ⟨g, 1, none⟩ a1).setCell ⟨g, 2, none⟩ a2).setCell ⟨g, 3, none⟩ a3).setCell ⟨g, 4, none⟩ a4).setCell ⟨g, 5, none⟩ a5).setCell ⟨g, 6, none⟩ a6).setCell ⟨g, 7, none⟩ a7).setCell ⟨g, 8, none⟩ a8).setCell ⟨g, 9, none⟩ a9).setCell ⟨g, 10, none⟩ a10).setCell ⟨g, 11, none⟩ a11).setCell ⟨g, 12, none⟩ a12) := rfl
theorem setA13 (a0 a1 a2 a3 a4 a5 a6 a7 a8 a9 a10 a11 a12 b0 b1 b2 b3 b4 b5 b6 b7 b8 b9 b10 b11 b12 : Value) : setA #[a0, a1, a2, a3, a4, a5, a6, a7, a8, a9, a10, a11, a12] 0 [b0, b1, b2, b3, b4, b5, b6, b7, b8, b9, b10, b11, b12] = #[b0, b1, b2, b3, b4, b5, b6, b7, b8, b9, b10, b11, b12] := by simp [setA]
theorem OwnT.ne {w : World} {base g : Nat} {v : Value} {T : List (Int × Bool)} {cs : Array Value} (h : OwnT w base v T) (hb : Blk w g 29 cs) : v.ownBlock ≠ some g := by
  intro e
  rcases h.2 with ⟨rfl, -⟩ | ⟨g', cap, cur, rfl, -, hh, -⟩
  · cases e
  · injection e with e
    subst e
    unfold Blk at hb
    have h1 := hh.symm.trans hb
    injection h1 with h1
    injection h1 with _ h2 _
    exact absurd h2 (by decide)
theorem OwnT.set {w : World} {base g : Nat} {v : Value} {T : List (Int × Bool)} {cs : Array Value} (h : OwnT w base v T) (hb : Blk w g 29 cs) (xs : List Value) (i : Nat) : OwnT (setL w g i xs) base v T :=
  World.ownsRow.kept h (setL_grown g xs i w) (.inr (h.ne hb))
theorem OwnT.stand {w w' : World} {base : Nat} {v : Value} {T : List (Int × Bool)} (h : OwnT w base v T) (hs : Stand (fun _ => True) w w') : OwnT w' base v T := by
  refine World.ownsRow.kept (row := none) h ⟨hs.os, hs.tape, hs.output, hs.size, fun k hk _ => hs.block k hk trivial⟩ ?_
  cases v.ownBlock with
  | none => exact .inl rfl
  | some k => exact .inr (by simp)
end Go.Proofs.Ytedegdojbhegdaa
