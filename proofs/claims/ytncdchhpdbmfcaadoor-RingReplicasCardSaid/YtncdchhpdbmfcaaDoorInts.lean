/- A slice of numbers that the call itself owns; append of one number. -/
import Derived.Test.YtncdchhpdbmfcaaDoorRows1
namespace Go.Proofs.YtncdchhpdbmfcaaDoor
open Go.RowKit

theorem info_int : (Tryd.prog.info? 3).map (fun i => (i.zero, i.size, i.bytes)) = some (some (.int .i64 0), 1, 8) := by kernel_rfl

/-- The slice value v owns just the numbers l, in a block from base on. -/
def OwnI (w : World) (base : Nat) (v : Value) (l : List Int) : Prop := w.ownsRow base 3 1 v l.length (l.map vi)
theorem OwnI.reads {w : World} {base : Nat} {v : Value} {l : List Int} (h : OwnI w base v l) : ∃ A c, v = .slice A l.length c ∧ l.length ≤ c ∧ (A = none → c = 0) ∧ Reads w w.heap.size 1 A l.length (l.map vi) := by
  obtain ⟨A, c, hv, hc, hA, _⟩ := own_form h
  subst hv
  exact ⟨A, c, rfl, hc, hA, Reads.of_own h⟩

/-- append of a number. -/
theorem append_int {ops : Array Oper} {rest : List Oper} {o : Oper} {a : Act} {Q : Exit → Act → World → Prop} (w : World) (x0 : Int) (t : TypeId) (hgd : o.guard = none) (sl x : Operand)
    (ho : o.op = .call { callee := .builtin .append, args := #[sl, x], argTypes := #[31, 31] }) (base : Nat) (v : Value) (S : List Int) (hs : a.eval sl = v) (hown : OwnI w base v S)
    (hx : a.eval x = .slice (some ⟨w.heap.size, 0, none⟩) 1 1) (hlen : S.length ≤ 1000000000) (hbase : base ≤ w.heap.size)
    (h : ∀ v' w', OwnI w' base v' (S ++ [x0]) → w.grownBy w' v.ownBlock → LiesIn w v v' → wpList Tryd.prog ops Q rest (a.put o.dst v') w') :
    wpList Tryd.prog ops Q (o :: rest) a (w.alloc (.cells #[.int .i64 x0] t)) := by
  refine append_elem w _ [vi x0] rfl t hgd sl x 31 ho base 3 _ 1 8 Tryd.underlying31 info_int rfl (by decide) v S.length (S.map vi) hs hown rfl (vi_one [x0]) hx (by unfold maxLen; omega) (by omega) hbase ?_
  intro v' w' h1 h2 h3
  refine h v' w' ?_ h2 h3
  unfold OwnI
  rw [List.map_append, List.length_append]
  exact h1

section
variable {w w' : World} {base : Nat} {v : Value} {S : List Int}
theorem OwnI.nil_ (w : World) (base : Nat) : OwnI w base (.slice none 0 0) [] := World.ownsRow_nil _ _ _ _
theorem OwnI.kept {row : Option Nat} (h : OwnI w base v S) (hg : w.grownBy w' row) (hne : v.ownBlock = none ∨ v.ownBlock ≠ row) : OwnI w' base v S := World.ownsRow.kept h hg hne
theorem OwnI.alloc (h : OwnI w base v S) (o : Obj) : OwnI (w.alloc o) base v S := World.ownsRow.alloc h o
theorem OwnI.below (h : OwnI w base v S) (hb : Below w.heap.size w w') : OwnI w' base v S := own_below h hb
theorem OwnI.lt (h : OwnI w base v S) : ∀ k, v.ownBlock = some k → base ≤ k ∧ k < w.heap.size := World.ownsRow.lt h
theorem OwnI.ne (h : OwnI w base v S) {g : Nat} (hg : g < base) : v.ownBlock = none ∨ v.ownBlock ≠ some g := by
  right
  intro e
  have := h.lt g e
  omega
theorem OwnI.ne' (h : OwnI w base v S) {g : Nat} (hg : g < base) : some g ≠ v.ownBlock := by
  intro e
  have := h.lt g e.symm
  omega
end
end Go.Proofs.YtncdchhpdbmfcaaDoor
