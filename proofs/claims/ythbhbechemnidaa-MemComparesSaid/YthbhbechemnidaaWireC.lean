/- Contracts of the reference's Put and Text: a number's bytes, a text's bytes, in memory of the call's own. Contract of the reference's Text. -/
import Derived.Test.YthbhbechemnidaaWireB
import Derived.Test.YthbhbechemnidaaBytesA
namespace Go.Proofs.Ythbhbechemnidaa
open Go.RowKit Go.Sort

theorem Own.pos {w : World} {base : Nat} {v : Value} {i : List UInt8} {c : UInt8} (h : Own w base v (i ++ [c])) :
    ∃ g cap, v = .slice (some ⟨g, 0, none⟩) (i.length + 1) cap ∧ base ≤ g ∧ g < w.heap.size ∧ w.cell? ⟨g, i.length, none⟩ = some (.int .u8 (c.toNat : Int)) ∧ w.frozen? ⟨g, i.length, none⟩ = false := by
  rcases h.form with ⟨_, h0⟩ | ⟨g, cap, hv, h1, h2, _, _, hc⟩
  · simp at h0
  · refine ⟨g, cap, by simpa using hv, h1, h2, ?_, h.frozen (by rw [hv]; rfl) _⟩
    have := hc i.length (by simp)
    simpa using this
theorem Own.set_last {w : World} {base : Nat} {g n cap : Nat} {i : List UInt8} {c : UInt8} (h : Own w base (.slice (some ⟨g, 0, none⟩) n cap) (i ++ [c])) (d : UInt8) (u : Value) (hu : u = vb d) :
    Own (w.setCell ⟨g, i.length, none⟩ u) base (.slice (some ⟨g, 0, none⟩) n cap) (i ++ [d]) ∧ w.grownBy (w.setCell ⟨g, i.length, none⟩ u) (some g) := by
  subst hu
  rcases h.form with ⟨h0, _⟩ | ⟨g', cap', hv, _⟩
  · cases h0
  · injection hv with h1 h2 h3
    injection h1 with h1
    injection h1 with h1
    subst h1 h2 h3
    have hs := World.ownsRow.stored (cap := cap) (n := (i ++ [c]).length) h i.length (vb d)
    refine ⟨?_, hs.2⟩
    have e : ((i ++ [c]).map vb).set i.length (vb d) = (i ++ [d]).map vb := by simp
    have h4 := hs.1
    rw [e] at h4
    unfold Own
    simpa using h4

theorem append_byte_at {ops : Array Oper} {rest : List Oper} {o : Oper} {a : Act} {Q : Exit → Act → World → Prop} (w : World) (g0 : Nat) (hg0 : g0 = w.heap.size) (u : Value) (c : UInt8) (hu : u = vb c) (t : TypeId) (hgd : o.guard = none) (s x : Operand)
    (ho : o.op = .call { callee := .builtin .append, args := #[s, x], argTypes := #[96, 96] }) (base : Nat) (v : Value) (l : List UInt8) (hs : a.eval s = v) (hown : Own w base v l)
    (hx : a.eval x = .slice (some ⟨g0, 0, none⟩) 1 1) (hlen : l.length + 1 ≤ 140737488355328) (hbase : base ≤ w.heap.size)
    (h : ∀ v' w', Own w' base v' (l ++ [c]) → w.grownBy w' v.ownBlock → Lies w v v' → wpList Try.prog ops Q rest (a.put o.dst v') w') : wpList Try.prog ops Q (o :: rest) a (w.alloc (.cells #[u] t)) := by
  subst hg0
  exact append_byte w u c hu t hgd s x ho base v l hs hown hx hlen hbase h

end Go.Proofs.Ythbhbechemnidaa

namespace Go.Proofs.Ythbhbechemnidaa
open Go.RowKit Go.Sort

end Go.Proofs.Ythbhbechemnidaa
