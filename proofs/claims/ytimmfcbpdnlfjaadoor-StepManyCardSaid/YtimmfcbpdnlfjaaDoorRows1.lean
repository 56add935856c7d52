/- Rows of elements of several cells that the call itself owns; append of one element. No program is named here, and nothing is assumed. append of one element of several cells onto a row that the call itself owns, told from the world in which the element lies. No program is named here, and nothing is assumed. -/
import Derived.Test.YtimmfcbpdnlfjaaDoorAppend
namespace Go.Proofs.YtimmfcbpdnlfjaaDoor
open Go.RowKit

theorem flat_len {α : Type} (c : α → List Value) (size : Nat) (hc : ∀ a, (c a).length = size) : ∀ S : List α, (S.flatMap c).length = S.length * size
  | [] => by simp
  | a :: S => by rw [List.flatMap_cons, List.length_append, hc, flat_len c size hc S, List.length_cons, Nat.add_mul]; omega
theorem flat_get {α : Type} (c : α → List Value) (size : Nat) (hc : ∀ a, (c a).length = size) : ∀ (S : List α) (k j : Nat) (hk : k < S.length), j < size → (S.flatMap c)[k * size + j]? = (c S[k])[j]?
  | a :: S, 0, j, _, hj => by
    rw [List.flatMap_cons, Nat.zero_mul, Nat.zero_add, List.getElem?_append_left (by rw [hc]; exact hj)]; rfl
  | a :: S, k + 1, j, hk, hj => by
    rw [List.flatMap_cons, List.getElem?_append_right (by rw [hc, Nat.add_mul]; omega), hc]
    have e : (k + 1) * size + j - size = k * size + j := by rw [Nat.add_mul]; omega
    rw [e]
    exact flat_get c size hc S k j (by simpa using hk) hj

/-- Where a grown slice lies: in its old block, or in a new one. -/
def LiesIn (w : World) (v v' : Value) : Prop := v'.ownBlock = v.ownBlock ∨ ∃ g, v'.ownBlock = some g ∧ w.heap.size ≤ g

section
variable {w w' : World} {base size n : Nat} {e : TypeId} {v : Value} {xs : List Value}
theorem own_below (h : w.ownsRow base e size v n xs) (hb : Below w.heap.size w w') : w'.ownsRow base e size v n xs :=
  World.ownsRow.kept (row := none) h ⟨hb.os, hb.tape, hb.output, hb.size, fun k hk _ => hb.block k hk⟩ (by cases v.ownBlock <;> simp)
/-- What it is: nil, or a slice from the head of its block. -/
theorem own_form (h : w.ownsRow base e size v n xs) : ∃ A c, v = .slice A n c ∧ n ≤ c ∧ (A = none → c = 0) ∧ (0 < n → ∃ g, A = some ⟨g, 0, none⟩ ∧ base ≤ g ∧ g < w.heap.size ∧ ∀ j u, xs[j]? = some u → w.cell? ⟨g, j, none⟩ = some u) := by
  rcases h.2 with ⟨hv, hn⟩ | ⟨g, cap, cur, hv, hg, hh, hn, hc, hs, htake⟩
  · subst hn
    exact ⟨none, 0, hv, Nat.le_refl _, fun _ => rfl, fun h0 => absurd h0 (by omega)⟩
  · refine ⟨_, cap, hv, hn, (fun h0 => by cases h0), fun _ => ⟨g, rfl, hg, (Array.getElem?_eq_some_iff.1 hh).1, fun j u hu => ?_⟩⟩
    have h1 := World.ownsRow.cells h (g := g) (by rw [hv]; rfl) j u hu
    rw [add_lit] at h1
    simpa using h1
end

theorem reads_new (w : World) (t : TypeId) (size : Nat) (u : Array Value) (news : List Value) (hu : u.toList = news) (hl : news.length = size) : Reads (w.alloc (.cells u t)) (w.alloc (.cells u t)).heap.size size (some ⟨w.heap.size, 0, none⟩) 1 news := by
  subst hu
  refine ⟨by omega, fun _ => ⟨_, rfl, by simp, fun j x hx => ?_⟩⟩
  rw [add_lit, Nat.zero_add, World.cell?_alloc_new]
  simpa using hx

/-- 'append(s, x)', s the call's own, x one element, laid in a block of its own first. -/
theorem append_elem {P : Program} {ops : Array Oper} {rest : List Oper} {o : Oper} {a : Act} {Q : Exit → Act → World → Prop} (w : World) (u : Array Value) (news : List Value) (hu : u.toList = news) (t : TypeId) (hgd : o.guard = none) (s x : Operand) (tl : TypeId)
    (ho : o.op = .call { callee := .builtin .append, args := #[s, x], argTypes := #[tl, tl] }) (base : Nat) (e : TypeId) (z : Value) (size bytes : Nat) (hT : P.underlying tl = some (.slice e)) (hI : (P.info? e).map (fun i => (i.zero, i.size, i.bytes)) = some (some z, size, bytes))
    (hzs : z.cells.size = size) (hsz : 0 < size) (v : Value) (n : Nat) (xs : List Value) (hs : a.eval s = v) (hown : w.ownsRow base e size v n xs) (hl : news.length = size) (h1 : ∀ u ∈ news, u.oneCell' = true)
    (hx : a.eval x = .slice (some ⟨w.heap.size, 0, none⟩) 1 1) (hlen : n + 1 ≤ maxLen) (hby : (n + 1) * bytes ≤ 140737488355328) (hbase : base ≤ w.heap.size)
    (h : ∀ v' w', w'.ownsRow base e size v' (n + 1) (xs ++ news) → w.grownBy w' v.ownBlock → LiesIn w v v' → wpList P ops Q rest (a.put o.dst v') w') : wpList P ops Q (o :: rest) a (w.alloc (.cells u t)) := by
  obtain ⟨i0, hi, hz0, hz1, hz2⟩ := info_parts hI
  refine wpList_append_any (w.alloc (.cells u t)) hgd s x tl ho base e i0 z size bytes hT hi hz0 hz1 hz2 hzs hsz v n xs hs (World.ownsRow.alloc hown _) _ _ 1 1 news hx (reads_new w t size u news hu hl) h1 hlen hby (by simp; omega) ?_
  intro v' w' h1 h2 h3
  refine h v' w' h1 ⟨h2.os, h2.tape, h2.output, by have := h2.size; simp at this; omega, fun k hk hne => ?_⟩ ?_
  · rw [h2.block k (by simp; omega) hne]
    exact Below.heap_alloc w _ k hk
  · rcases h3 with h3 | h3
    · exact .inl h3
    · exact .inr ⟨_, h3, by simp⟩

/-- Below a base that the row's block lies on or above: all as it was. -/
theorem below_own {B base size n : Nat} {e : TypeId} {a w w' : World} {v : Value} {xs : List Value} (hb : Below B a w) (hB : B ≤ w.heap.size) (hown : w.ownsRow base e size v n xs) (hBb : B ≤ base) (h : w.grownBy w' v.ownBlock) : Below B a w' :=
  Below.grown hb h hB (fun k hk => by have := (World.ownsRow.lt hown k hk).1; omega)
end Go.Proofs.YtimmfcbpdnlfjaaDoor

namespace Go.Proofs.YtimmfcbpdnlfjaaDoor
open Go.RowKit

theorem append_elem_a {P : Program} {ops : Array Oper} {rest : List Oper} {o : Oper} {a : Act} {Q : Exit → Act → World → Prop} (w : World) (u : Array Value) (news : List Value) (hu : u.toList = news) (t : TypeId) (hgd : o.guard = none) (s x : Operand) (tl : TypeId)
    (ho : o.op = .call { callee := .builtin .append, args := #[s, x], argTypes := #[tl, tl] }) (base : Nat) (e : TypeId) (z : Value) (size bytes : Nat) (hT : P.underlying tl = some (.slice e)) (hI : (P.info? e).map (fun i => (i.zero, i.size, i.bytes)) = some (some z, size, bytes))
    (hzs : z.cells.size = size) (hsz : 0 < size) (v : Value) (n : Nat) (xs : List Value) (hs : a.eval s = v) (hown : w.ownsRow base e size v n xs) (hl : news.length = size) (h1 : ∀ u ∈ news, u.oneCell' = true)
    (hx : a.eval x = .slice (some ⟨w.heap.size, 0, none⟩) 1 1) (hlen : n + 1 ≤ maxLen) (hby : (n + 1) * bytes ≤ 140737488355328) (hbase : base ≤ w.heap.size)
    (h : ∀ v' w', w'.ownsRow base e size v' (n + 1) (xs ++ news) → (w.alloc (.cells u t)).grownBy w' v.ownBlock → wpList P ops Q rest (a.put o.dst v') w') : wpList P ops Q (o :: rest) a (w.alloc (.cells u t)) := by
  obtain ⟨i0, hi, hz0, hz1, hz2⟩ := info_parts hI
  refine wpList_append_any (w.alloc (.cells u t)) hgd s x tl ho base e i0 z size bytes hT hi hz0 hz1 hz2 hzs hsz v n xs hs (World.ownsRow.alloc hown _) _ _ 1 1 news hx (reads_new w t size u news hu hl) h1 hlen hby (by simp; omega) ?_
  intro v' w' h1 h2 _
  exact h v' w' h1 h2
end Go.Proofs.YtimmfcbpdnlfjaaDoor
