/- append of numbers onto a row of numbers of the call's own. -/
import Derived.Test.YtncdchhpdbmfcaaDoorInts
namespace Go.Proofs.YtncdchhpdbmfcaaDoor
open Go.RowKit

/-- 'append(s, x...)', s the call's own, x any numbers. -/
theorem append_ints {ops : Array Oper} {rest : List Oper} {o : Oper} {a : Act} {Q : Exit → Act → World → Prop} (w : World) (hgd : o.guard = none) (s x : Operand)
    (ho : o.op = .call { callee := .builtin .append, args := #[s, x], argTypes := #[31, 31] }) (base : Nat) (v : Value) (l : List Int) (hs : a.eval s = v) (hown : OwnI w base v l)
    (A : Option Addr) (m c : Nat) (news : List Int) (hx : a.eval x = .slice A m c) (hr : Reads w w.heap.size 1 A m (news.map vi)) (hlen : l.length + m ≤ 10000000000) (hbase : base ≤ w.heap.size)
    (h : ∀ v' w', OwnI w' base v' (l ++ news) → w.grownBy w' v.ownBlock → (v'.ownBlock = v.ownBlock ∨ v'.ownBlock = some w.heap.size) → wpList Tryd.prog ops Q rest (a.put o.dst v') w') : wpList Tryd.prog ops Q (o :: rest) a w := by
  obtain ⟨i0, hi, hz0, hz1, hz2⟩ := info_parts info_int
  have hn : news.length = m := by have := hr.1; simpa using this
  refine wpList_append_any w hgd s x _ ho base 3 i0 (.int .i64 0) 1 8 Tryd.underlying31 hi hz0 hz1 hz2 rfl (by decide) v l.length (l.map vi) hs hown w.heap.size A m c (news.map vi) hx hr (vi_one _) (by simp only [maxLen]; omega) (by omega) hbase ?_
  intro v' w' h1 h2 h3
  refine h v' w' ?_ h2 h3
  unfold OwnI
  rw [List.map_append, List.length_append, hn]
  exact h1
end Go.Proofs.YtncdchhpdbmfcaaDoor
