/- Rows whose elements have rows of their own: what hangs on them stays. No program is named here, and nothing is assumed. -/
import Derived.Test.YtfkooohnaodjmaaRows1
namespace Go.Proofs.Ytfkooohnaodjmaa
open Go.RowKit

/-- Each element's own row reads, and is not in the block 'own'. -/
def Hangs {α : Type} (k : Nat) (sA : α → Option Addr) (sn : α → Nat) (sx : α → List Value) (w : World) (own : Option Nat) (L : List α) : Prop :=
  ∀ e ∈ L, Reads w w.heap.size k (sA e) (sn e) (sx e) ∧ ∀ ad, sA e = some ad → own ≠ some ad.block
section
variable {α : Type} {k : Nat} {sA : α → Option Addr} {sn : α → Nat} {sx : α → List Value} {w w' : World} {own own' : Option Nat} {L : List α}
theorem Hangs.nil_ : Hangs k sA sn sx w own [] := fun e he => by cases he
theorem Hangs.at_ (h : Hangs k sA sn sx w own L) {i : Nat} (hi : i < L.length) : Reads w w.heap.size k (sA L[i]) (sn L[i]) (sx L[i]) := (h _ (List.getElem_mem hi)).1
theorem Hangs.reads (h : Hangs k sA sn sx w own L) {e : α} (he : e ∈ L) : Reads w w.heap.size k (sA e) (sn e) (sx e) := (h _ he).1
theorem Hangs.below (h : Hangs k sA sn sx w own L) (hb : Below w.heap.size w w') : Hangs k sA sn sx w' own L := fun e he =>
  ⟨((h e he).1.below hb).more hb.size, (h e he).2⟩
theorem Hangs.sub {L' : List α} (h : Hangs k sA sn sx w own L) (hs : ∀ e ∈ L', e ∈ L) : Hangs k sA sn sx w own L' := fun e he => h e (hs e he)
theorem Hangs.free (h : Hangs k sA sn sx w own L) : Hangs k sA sn sx w none L := fun e he => ⟨(h e he).1, fun _ _ => by simp⟩
theorem Hangs.snoc {e : α} (h : Hangs k sA sn sx w own L) (hr : Reads w w.heap.size k (sA e) (sn e) (sx e)) (hn : ∀ ad, sA e = some ad → own ≠ some ad.block) : Hangs k sA sn sx w own (L ++ [e]) := by
  intro x hx
  rcases List.mem_append.1 hx with hx | hx
  · exact h x hx
  · rw [List.mem_singleton.1 hx]
    exact ⟨hr, hn⟩
theorem reads_grown_ne {xs : List Value} {A : Option Addr} {n : Nat} (h : Reads w w.heap.size k A n xs) (hg : w.grownBy w' own) (hn : ∀ ad, A = some ad → own ≠ some ad.block) : Reads w' w'.heap.size k A n xs := by
  refine ⟨h.1, fun h0 => ?_⟩
  obtain ⟨ad, hA, hb, hc⟩ := h.2 h0
  refine ⟨ad, hA, Nat.lt_of_lt_of_le hb hg.size, fun j u hu => ?_⟩
  have h1 := hg.block ad.block hb (fun e => hn ad hA e.symm)
  rw [← hc j u hu]
  exact World.cell?_of_block (by rw [block_of_add]; exact h1)
/-- The row that the elements lie in is written or has grown: what hangs on them stays. -/
theorem Hangs.grown (h : Hangs k sA sn sx w own L) (hg : w.grownBy w' own) : Hangs k sA sn sx w' own L := fun e he =>
  ⟨reads_grown_ne (h e he).1 hg (h e he).2, (h e he).2⟩
/-- Another block was written. -/
theorem Hangs.other {row : Option Nat} (h : Hangs k sA sn sx w own L) (hg : w.grownBy w' row) (hr : ∀ e ∈ L, ∀ ad, sA e = some ad → row ≠ some ad.block) : Hangs k sA sn sx w' own L := fun e he =>
  ⟨reads_grown_ne (h e he).1 hg (hr e he), (h e he).2⟩
theorem Hangs.moved {v v' : Value} (h : Hangs k sA sn sx w v.ownBlock L) (hg : w.grownBy w' v.ownBlock) (hl : LiesIn w v v') (hn : ∀ e ∈ L, ∀ ad, sA e = some ad → ad.block < w.heap.size) : Hangs k sA sn sx w' v'.ownBlock L := fun e he => by
  refine ⟨reads_grown_ne (h e he).1 hg (h e he).2, fun ad hA => ?_⟩
  rcases hl with hl | ⟨g, hl, hge⟩
  · rw [hl]; exact (h e he).2 ad hA
  · rw [hl]
    intro e1
    injection e1 with e1
    have := hn e he ad hA
    omega
end
theorem only_set1 (w : World) (g i : Nat) (u : Value) : w.grownBy (w.setCell ⟨g, i, none⟩ u) (some g) :=
  ⟨rfl, rfl, rfl, by simp [World.setCell], fun k _ hne => Below.heap_setCell w _ u k (fun e => hne (by rw [e]))⟩
theorem own_set1 {w : World} {base size n g : Nat} {e : TypeId} {v : Value} {xs : List Value} (h : w.ownsRow base e size v n xs) (hg : g < base) (i : Nat) (u : Value) : (w.setCell ⟨g, i, none⟩ u).ownsRow base e size v n xs :=
  World.ownsRow.kept h (only_set1 w g i u) (.inr (fun e => by have := (World.ownsRow.lt h _ e).1; omega))
theorem own_slice {w : World} {base size n : Nat} {e : TypeId} {v : Value} {xs : List Value} (h : w.ownsRow base e size v n xs) : ∃ A m c, v = .slice A m c := by
  obtain ⟨A, c, hv, _⟩ := own_form h
  exact ⟨A, n, c, hv⟩
theorem below_set {B g : Nat} {w0 w : World} (h : Below B w0 w) (hg : B ≤ g) (i : Nat) (u : Value) : Below B w0 (w.setCell ⟨g, i, none⟩ u) := h.setCell (p := ⟨g, i, none⟩) hg u
theorem Reads.formk {w : World} {B n size : Nat} {A : Option Addr} {xs : List Value} (h : Reads w B size A n xs) (hn : 0 < n) (hs : 0 < size) : ∃ b off, A = some ⟨b, off, none⟩ ∧ b < B ∧ ∀ j u, xs[j]? = some u → w.cell? ⟨b, off + j, none⟩ = some u := by
  obtain ⟨ad, e, hb, hc⟩ := h.2 hn
  have hl : 0 < xs.length := by rw [h.1]; exact Nat.mul_pos hn hs
  have h0 := hc 0 _ (List.getElem?_eq_getElem hl)
  obtain ⟨b, off, spot⟩ := ad
  have hs : spot = none := by simpa [Addr.add] using World.cell?_spot h0
  subst hs
  refine ⟨b, off, e, hb, fun j u hu => ?_⟩
  rw [← add_lit]
  exact hc j u hu
/-- 'append(s, x)', told from the world in which the element lies, with where the row lies then. -/
theorem append_elem_b {P : Program} {ops : Array Oper} {rest : List Oper} {o : Oper} {a : Act} {Q : Exit → Act → World → Prop} (w : World) (u : Array Value) (news : List Value) (hu : u.toList = news) (t : TypeId) (hgd : o.guard = none) (s x : Operand) (tl : TypeId)
    (ho : o.op = .call { callee := .builtin .append, args := #[s, x], argTypes := #[tl, tl] }) (base : Nat) (e : TypeId) (z : Value) (size bytes : Nat) (hT : P.underlying tl = some (.slice e)) (hI : (P.info? e).map (fun i => (i.zero, i.size, i.bytes)) = some (some z, size, bytes))
    (hzs : z.cells.size = size) (hsz : 0 < size) (v : Value) (n : Nat) (xs : List Value) (hs : a.eval s = v) (hown : w.ownsRow base e size v n xs) (hl : news.length = size) (h1 : ∀ u ∈ news, u.oneCell' = true)
    (hx : a.eval x = .slice (some ⟨w.heap.size, 0, none⟩) 1 1) (hlen : n + 1 ≤ maxLen) (hby : (n + 1) * bytes ≤ 140737488355328) (hbase : base ≤ w.heap.size)
    (h : ∀ v' w', w'.ownsRow base e size v' (n + 1) (xs ++ news) → (w.alloc (.cells u t)).grownBy w' v.ownBlock → LiesIn (w.alloc (.cells u t)) v v' → wpList P ops Q rest (a.put o.dst v') w') : wpList P ops Q (o :: rest) a (w.alloc (.cells u t)) := by
  obtain ⟨i0, hi, hz0, hz1, hz2⟩ := info_parts hI
  refine wpList_append_any (w.alloc (.cells u t)) hgd s x tl ho base e i0 z size bytes hT hi hz0 hz1 hz2 hzs hsz v n xs hs (World.ownsRow.alloc hown _) _ _ 1 1 news hx (reads_new w t size u news hu hl) h1 hlen hby (by simp; omega) ?_
  intro v' w' h1 h2 h3
  refine h v' w' h1 h2 ?_
  rcases h3 with h3 | h3
  · exact .inl h3
  · exact .inr ⟨_, h3, by simp⟩
end Go.Proofs.Ytfkooohnaodjmaa
