/- append of one element of several cells onto a row that the call itself owns, told from the world in which the element lies. No program is named here, and nothing is assumed. -/
import Derived.Test.YthbhbechemnidaaRows1
namespace Go.Proofs.Ythbhbechemnidaa
open Go.RowKit

theorem append_elem_a {P : Program} {ops : Array Oper} {rest : List Oper} {o : Oper} {a : Act} {Q : Exit → Act → World → Prop} (w : World) (u : Array Value) (news : List Value) (hu : u.toList = news) (t : TypeId) (hgd : o.guard = none) (s x : Operand) (tl : TypeId)
    (ho : o.op = .call { callee := .builtin .append, args := #[s, x], argTypes := #[tl, tl] }) (base : Nat) (e : TypeId) (z : Value) (size bytes : Nat) (hT : P.underlying tl = some (.slice e)) (hI : (P.info? e).map (fun i => (i.zero, i.size, i.bytes)) = some (some z, size, bytes))
    (hzs : z.cells.size = size) (hsz : 0 < size) (v : Value) (n : Nat) (xs : List Value) (hs : a.eval s = v) (hown : w.ownsRow base e size v n xs) (hl : news.length = size) (h1 : ∀ u ∈ news, u.oneCell' = true)
    (hx : a.eval x = .slice (some ⟨w.heap.size, 0, none⟩) 1 1) (hlen : n + 1 ≤ maxLen) (hby : (n + 1) * bytes ≤ 140737488355328) (hbase : base ≤ w.heap.size)
    (h : ∀ v' w', w'.ownsRow base e size v' (n + 1) (xs ++ news) → (w.alloc (.cells u t)).grownBy w' v.ownBlock → wpList P ops Q rest (a.put o.dst v') w') : wpList P ops Q (o :: rest) a (w.alloc (.cells u t)) := by
  obtain ⟨i0, hi, hz0, hz1, hz2⟩ := info_parts hI
  refine wpList_append_any (w.alloc (.cells u t)) hgd s x tl ho base e i0 z size bytes hT hi hz0 hz1 hz2 hzs hsz v n xs hs (World.ownsRow.alloc hown _) _ _ 1 1 news hx (reads_new w t size u news hu hl) h1 hlen hby (by simp; omega) ?_
  intro v' w' h1 h2 _
  exact h v' w' h1 h2
end Go.Proofs.Ythbhbechemnidaa
