/- A slice of bytes that the call itself owns; append onto it. Lengths are at most 2^47. -/
import Derived.Test.YtedegdojbhegdaaDoorAppend
import Derived.Test.YtedegdojbhegdaaDoorForm
namespace Go.Proofs.YtedegdojbhegdaaDoor
open Go.RowKit

theorem info_u8 : (Tryd.prog.info? 5).map (fun i => (i.zero, i.size, i.bytes)) = some (some (.int .u8 0), 1, 1) := by kernel_rfl

/-- The slice value v owns just the bytes l, in a block from base on. -/
def Own (w : World) (base : Nat) (v : Value) (l : List UInt8) : Prop := w.ownsRow base 5 1 v l.length (l.map vb)

/-- Where a grown slice lies: in its old block, or in a new one. -/
def Lies (w : World) (v v' : Value) : Prop := v'.ownBlock = v.ownBlock ∨ ∃ g, v'.ownBlock = some g ∧ w.heap.size ≤ g

section
variable {w w' : World} {base : Nat} {v : Value} {l : List UInt8}
theorem Own.nil_ (w : World) (base : Nat) : Own w base (.slice none 0 0) [] := World.ownsRow_nil _ _ _ _
theorem Own.kept {row : Option Nat} (h : Own w base v l) (hg : w.grownBy w' row) (hne : v.ownBlock = none ∨ v.ownBlock ≠ row) : Own w' base v l := World.ownsRow.kept h hg hne
theorem Own.alloc (h : Own w base v l) (o : Obj) : Own (w.alloc o) base v l := World.ownsRow.alloc h o
theorem Own.drewN (h : Own w base v l) (m : Nat) : Own (w.drewN m) base v l := h
theorem Own.lt (h : Own w base v l) : ∀ k, v.ownBlock = some k → base ≤ k ∧ k < w.heap.size := World.ownsRow.lt h
theorem Own.below (h : Own w base v l) (hb : Below w.heap.size w w') : Own w' base v l :=
  Own.kept (row := none) h ⟨hb.os, hb.tape, hb.output, hb.size, fun k hk _ => hb.block k hk⟩ (by cases v.ownBlock <;> simp)
theorem Own.base_le (h : Own w base v l) {base' : Nat} (hb : base' ≤ base) : Own w base' v l := by
  obtain ⟨h1, h2⟩ := h
  refine ⟨h1, ?_⟩
  rcases h2 with h2 | ⟨g, cap, cur, hv, hg, r⟩
  · exact .inl h2
  · exact .inr ⟨g, cap, cur, hv, by omega, r⟩
/-- What it is: nil, or a slice from the head of its block. -/
theorem Own.form (h : Own w base v l) : (v = .slice none 0 0 ∧ l = []) ∨ ∃ g cap, v = .slice (some ⟨g, 0, none⟩) l.length cap ∧ base ≤ g ∧ g < w.heap.size ∧ l.length ≤ cap ∧ cap ≤ maxLen ∧ ∀ k (hk : k < l.length), w.cell? ⟨g, k, none⟩ = some (.int .u8 (l[k].toNat : Int)) := by
  rcases h.2 with ⟨hv, hn⟩ | ⟨g, cap, cur, hv, hg, hh, hn, hc, hs, htake⟩
  · left
    refine ⟨hv, ?_⟩
    simpa using hn
  · right
    refine ⟨g, cap, hv, hg, (Array.getElem?_eq_some_iff.1 hh).1, hn, hc, fun k hk => ?_⟩
    have h1 := World.ownsRow.cells h (g := g) (by rw [hv]; rfl) k (vb l[k]) (by simp [hk])
    rw [add_lit] at h1
    simpa [vb] using h1
theorem Own.frozen (h : Own w base v l) {g : Nat} (hg : v.ownBlock = some g) (k : Nat) : w.frozen? ⟨g, k, none⟩ = false := by
  rcases h.2 with ⟨hv, _⟩ | ⟨g', cap, cur, hv, _, hh, _⟩
  · rw [hv] at hg; simp [Value.ownBlock] at hg
  · rw [hv] at hg
    simp [Value.ownBlock] at hg
    subst hg
    simp [World.frozen?, hh]
theorem Own.reads (h : Own w base v l) : ∃ A c, v = .slice A l.length c ∧ l.length ≤ c ∧ Reads w w.heap.size 1 A l.length (l.map vb) := by
  rcases h.form with ⟨hv, hl⟩ | ⟨g, cap, hv, _, _, hc, _⟩
  · subst hl
    exact ⟨none, 0, hv, Nat.le_refl _, Reads.none_⟩
  · refine ⟨_, cap, hv, hc, ?_⟩
    have h' : w.ownsRow base 5 1 (.slice (some ⟨g, 0, none⟩) l.length cap) l.length (l.map vb) := hv ▸ h
    exact Reads.of_own h'
theorem Own.row (h : Own w base v l) {g : Nat} (hg : v.ownBlock = some g) : base ≤ g := (h.lt g hg).1
end

theorem reads_one (w : World) (t : TypeId) (c : UInt8) (u : Value) (hu : u = vb c) : Reads (w.alloc (.cells #[u] t)) (w.alloc (.cells #[u] t)).heap.size 1 (some ⟨w.heap.size, 0, none⟩) 1 ([c].map vb) := by
  subst hu
  refine ⟨rfl, fun _ => ⟨_, rfl, by simp, fun j x hx => ?_⟩⟩
  match j, hx with
  | 0, hx => simp at hx; subst hx; simp [Addr.add, World.cell?_alloc_new]

/-- 'append(s, x...)', s the call's own, x any bytes. -/
theorem append_bytes {ops : Array Oper} {rest : List Oper} {o : Oper} {a : Act} {Q : Exit → Act → World → Prop} (w : World) (hgd : o.guard = none) (s x : Operand)
    (ho : o.op = .call { callee := .builtin .append, args := #[s, x], argTypes := #[66, 66] }) (base : Nat) (v : Value) (l : List UInt8) (hs : a.eval s = v) (hown : Own w base v l)
    (A : Option Addr) (m c : Nat) (news : List UInt8) (hx : a.eval x = .slice A m c) (hr : Reads w w.heap.size 1 A m (news.map vb)) (hlen : l.length + m ≤ 140737488355328) (hbase : base ≤ w.heap.size)
    (h : ∀ v' w', Own w' base v' (l ++ news) → w.grownBy w' v.ownBlock → Lies w v v' → wpList Tryd.prog ops Q rest (a.put o.dst v') w') : wpList Tryd.prog ops Q (o :: rest) a w := by
  obtain ⟨i0, hi, hz0, hz1, hz2⟩ := info_parts info_u8
  have hn := hr.len
  refine wpList_append_any w hgd s x _ ho base 5 i0 (.int .u8 0) 1 1 Tryd.underlying66 hi hz0 hz1 hz2 rfl (by decide) v l.length (l.map vb) hs hown w.heap.size A m c (news.map vb) hx hr (vb_one _) (by simp only [maxLen]; omega) (by omega) hbase ?_
  intro v' w' h1 h2 h3
  refine h v' w' ?_ h2 ?_
  · unfold Own
    rw [List.map_append, List.length_append, hn]
    exact h1
  · rcases h3 with h3 | h3
    · exact .inl h3
    · exact .inr ⟨_, h3, Nat.le_refl _⟩

/-- 'append(s, c)', s the call's own, c one byte, laid in a block of its own first. -/
theorem append_byte {ops : Array Oper} {rest : List Oper} {o : Oper} {a : Act} {Q : Exit → Act → World → Prop} (w : World) (u : Value) (c : UInt8) (hu : u = vb c) (t : TypeId) (hgd : o.guard = none) (s x : Operand)
    (ho : o.op = .call { callee := .builtin .append, args := #[s, x], argTypes := #[66, 66] }) (base : Nat) (v : Value) (l : List UInt8) (hs : a.eval s = v) (hown : Own w base v l)
    (hx : a.eval x = .slice (some ⟨w.heap.size, 0, none⟩) 1 1) (hlen : l.length + 1 ≤ 140737488355328) (hbase : base ≤ w.heap.size)
    (h : ∀ v' w', Own w' base v' (l ++ [c]) → w.grownBy w' v.ownBlock → Lies w v v' → wpList Tryd.prog ops Q rest (a.put o.dst v') w') : wpList Tryd.prog ops Q (o :: rest) a (w.alloc (.cells #[u] t)) := by
  refine append_bytes (w.alloc (.cells #[u] t)) hgd s x ho base v l hs (hown.alloc _) _ 1 1 [c] hx (reads_one w t c u hu) hlen (by simp; omega) ?_
  intro v' w' h1 h2 h3
  refine h v' w' h1 ⟨h2.os, h2.tape, h2.output, by have := h2.size; simp at this; omega, fun k hk hne => ?_⟩ ?_
  · rw [h2.block k (by simp; omega) hne]
    exact Below.heap_alloc w _ k hk
  · rcases h3 with h3 | ⟨g, h3, h4⟩
    · exact .inl h3
    · exact .inr ⟨g, h3, by simp at h4; omega⟩
end Go.Proofs.YtedegdojbhegdaaDoor
