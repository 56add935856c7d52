/- A tree of mutations as it lies in memory; what stays when blocks are written. No function of the program is named here, and nothing is assumed. -/
import Derived.Test.YthbhbechemnidaaMutG
import Derived.Test.YthbhbechemnidaaMemA
namespace Go.Proofs.Ythbhbechemnidaa
open Go.RowKit Go.Sort

/-- A tree: at a block, the mutations ahead, the mutation with its weight, those behind. -/
inductive TT where
  | nil : TT
  | node (g : Nat) (l : TT) (e : MutS) (wt : Int) (r : TT) : TT
def TT.adr : TT → Option Addr
  | .nil => none
  | .node g _ _ _ _ => some ⟨g, 0, none⟩
abbrev TT.ptr (t : TT) : Value := .pointer t.adr
def TT.list : TT → List Mut
  | .nil => []
  | .node _ l e _ r => l.list ++ e.m :: r.list
def TT.gs : TT → List Nat
  | .nil => []
  | .node g l _ _ r => g :: (l.gs ++ r.gs)
/-- A node's cells. -/
def nodeC (e : MutS) (wt : Int) (pl pr : Value) : Array Value := #[.int .i64 e.m.tab, .int .i64 e.m.kind, .string e.m.key, .string e.m.en, .string e.m.val, .int .i64 e.m.exp, .int .i64 e.m.at_.1, .int .i64 e.m.at_.2.1, .int .i64 e.m.at_.2.2, .slice e.A e.n e.c, .int .u32 wt, pl, pr]
/-- A mutation whose stamps are the tree's own. -/
def OwnE (w : World) (lo : Nat) (e : MutS) : Prop := OwnSt w lo (.slice e.A e.n e.c) e.m.ov ∧ e.n = e.m.ov.length ∧ e.n ≤ 1000000000 ∧ (e.A = none → e.c = 0)
/-- The tree lies in memory. -/
def TT.Lies (w : World) (lo : Nat) : TT → Prop
  | .nil => True
  | .node g l e wt r => lo ≤ g ∧ Blk w g 95 (nodeC e wt l.ptr r.ptr) ∧ OwnE w lo e ∧ l.Lies w lo ∧ r.Lies w lo

theorem TT.Lies.mem {w : World} {lo : Nat} : ∀ {t : TT}, t.Lies w lo → ∀ q ∈ t.gs, lo ≤ q ∧ ∃ cs, Blk w q 95 cs
  | .nil, _, q, hq => by cases hq
  | .node g l e wt r, h, q, hq => by
    obtain ⟨h1, h2, _, h4, h5⟩ := h
    rcases List.mem_cons.1 hq with rfl | hq
    · exact ⟨h1, _, h2⟩
    · rcases List.mem_append.1 hq with hq | hq
      · exact TT.Lies.mem h4 q hq
      · exact TT.Lies.mem h5 q hq
theorem TT.Lies.lt {w : World} {lo : Nat} {t : TT} (h : t.Lies w lo) : ∀ q ∈ t.gs, q < w.heap.size := fun q hq => by
  obtain ⟨_, cs, hb⟩ := h.mem q hq
  exact hb.lt
/-- All rows of stamps stand. -/
def StK (w w' : World) : Prop := ∀ (q : Nat) (cur : Array Value), w.heap[q]? = some (.cells cur 30) → w'.heap[q]? = some (.cells cur 30)
/-- A row of stamps lies in a block of stamps. -/
theorem ownSt_keep {w w' : World} {lo : Nat} {v : Value} {S : List (Int × Int × Int)} (h : OwnSt w lo v S) (hk : StK w w') : OwnSt w' lo v S := by
  refine ⟨h.1, ?_⟩
  rcases h.2 with h2 | ⟨g, cap, cur, hv, hg, hh, r⟩
  · exact .inl h2
  · exact .inr ⟨g, cap, cur, hv, hg, hk g _ hh, r⟩
theorem OwnE.keep {w w' : World} {lo : Nat} {e : MutS} (h : OwnE w lo e) (hk : StK w w') : OwnE w' lo e := ⟨ownSt_keep h.1 hk, h.2⟩
/-- The tree's own blocks and all that is no node stand: the tree lies as before. -/
theorem TT.Lies.keep {w w' : World} {lo : Nat} (hk : StK w w') : ∀ {t : TT}, t.Lies w lo → (∀ q ∈ t.gs, w'.heap[q]? = w.heap[q]?) → t.Lies w' lo
  | .nil, _, _ => trivial
  | .node g l e wt r, h, hg => by
    obtain ⟨h1, h2, h3, h4, h5⟩ := h
    exact ⟨h1, (hg g (List.mem_cons_self ..)).trans h2, h3.keep hk, TT.Lies.keep hk h4 fun q hq => hg q (List.mem_cons_of_mem _ (List.mem_append_left _ hq)), TT.Lies.keep hk h5 fun q hq => hg q (List.mem_cons_of_mem _ (List.mem_append_right _ hq))⟩
/-- What a step may turn: the blocks of some nodes. -/
structure Turned (G : List Nat) (w w' : World) : Prop where
  os : w'.os = w.os
  tape : w'.tape = w.tape
  output : w'.output = w.output
  size : w.heap.size ≤ w'.heap.size
  block : ∀ k, k < w.heap.size → k ∉ G → w'.heap[k]? = w.heap[k]?
theorem Turned.refl (G : List Nat) (w : World) : Turned G w w := ⟨rfl, rfl, rfl, Nat.le_refl _, fun _ _ _ => rfl⟩
theorem Turned.of_below {G : List Nat} {w w' : World} (b : Below w.heap.size w w') : Turned G w w' := ⟨b.os, b.tape, b.output, b.size, fun k hk _ => b.block k hk⟩
theorem Turned.trans {G : List Nat} {a b c : World} (h : Turned G a b) (h' : Turned G b c) : Turned G a c :=
  ⟨h'.os.trans h.os, h'.tape.trans h.tape, h'.output.trans h.output, Nat.le_trans h.size h'.size, fun k hk hG => (h'.block k (Nat.lt_of_lt_of_le hk h.size) hG).trans (h.block k hk hG)⟩
theorem Turned.mono {G G' : List Nat} {a b : World} (h : Turned G a b) (hs : ∀ q ∈ G, q ∈ G') : Turned G' a b := ⟨h.os, h.tape, h.output, h.size, fun k hk hG => h.block k hk (fun hq => hG (hs k hq))⟩
/-- Blocks that are new behind 'a' may turn, too. -/
theorem Turned.mono_new {G G' : List Nat} {a b c : World} (h : Turned G a b) (h' : Turned G' b c) (hs : ∀ q ∈ G', q ∈ G ∨ a.heap.size ≤ q) : Turned G a c :=
  ⟨h'.os.trans h.os, h'.tape.trans h.tape, h'.output.trans h.output, Nat.le_trans h.size h'.size, fun k hk hG => (h'.block k (Nat.lt_of_lt_of_le hk h.size) (fun hq => by
    rcases hs k hq with h1 | h1
    · exact hG h1
    · omega)).trans (h.block k hk hG)⟩
theorem Turned.set {G : List Nat} {w : World} {g : Nat} (hg : g ∈ G) (i : Nat) (u : Value) : Turned G w (w.setCell ⟨g, i, none⟩ u) :=
  ⟨rfl, rfl, rfl, by simp [World.setCell], fun k _ hG => Below.heap_setCell w _ u k (fun e => hG (e ▸ hg))⟩
theorem Turned.drew {G : List Nat} {a b : World} (h : Turned G a b) : Turned G a b.drew := ⟨h.os, h.tape, h.output, h.size, h.block⟩
theorem Turned.keepO {G : List Nat} {w w' : World} (h : Turned G w w') (hG : ∀ q ∈ G, ∃ cs, Blk w q 95 cs) : StK w w' := fun q cur hq => by
  have hlt := (Array.getElem?_eq_some_iff.1 hq).1
  rw [h.block q hlt (fun hqG => by
    obtain ⟨cs, hb⟩ := hG q hqG
    have hb' : w.heap[q]? = some (.cells cs 95) := hb
    rw [hb'] at hq
    injection hq with hq
    injection hq with _ hq _
    exact absurd hq (by decide))]
  exact hq
theorem Turned.keepR {r : Nat} {w w' : World} {cs : Array Value} (h : Turned [r] w w') (hr : Blk w r 71 cs) : StK w w' := fun q cur hq => by
  have hlt := (Array.getElem?_eq_some_iff.1 hq).1
  rw [h.block q hlt (fun hqG => by
    rw [List.mem_singleton.1 hqG] at hq
    have hb' : w.heap[r]? = some (.cells cs 71) := hr
    rw [hb'] at hq
    injection hq with hq
    injection hq with _ hq _
    exact absurd hq (by decide))]
  exact hq
theorem Turned.lies {G : List Nat} {w w' : World} {lo : Nat} {t : TT} (h : Turned G w w') (hG : ∀ q ∈ G, ∃ cs, Blk w q 95 cs) (ht : t.Lies w lo) (hd : ∀ q ∈ t.gs, q ∉ G) : t.Lies w' lo :=
  ht.keep (h.keepO hG) fun q hq => h.block q (ht.lt q hq) (hd q hq)
theorem Turned.ownE {G : List Nat} {w w' : World} {lo : Nat} {e : MutS} (h : Turned G w w') (hG : ∀ q ∈ G, ∃ cs, Blk w q 95 cs) (he : OwnE w lo e) : OwnE w' lo e := he.keep (h.keepO hG)

/-- A row in a tree's order with one more, if it isn't there; is it new? -/
def insM (m : Mut) : List Mut → List Mut × Bool
  | [] => ([m], true)
  | x :: l => if cmpMem m x = 0 then (x :: l, false) else if cmpMem m x < 0 then (m :: x :: l, true) else (x :: (insM m l).1, (insM m l).2)
theorem insM_left (m x : Mut) (R : List Mut) (h : cmpMem m x < 0) : ∀ L : List Mut, insM m (L ++ x :: R) = ((insM m L).1 ++ x :: R, (insM m L).2)
  | [] => by
    show (if cmpMem m x = 0 then (x :: R, false) else if cmpMem m x < 0 then (m :: x :: R, true) else (x :: (insM m R).1, (insM m R).2)) = _
    rw [if_neg (by omega), if_pos h]
    rfl
  | a :: L => by
    show (if cmpMem m a = 0 then (a :: (L ++ x :: R), false) else if cmpMem m a < 0 then (m :: a :: (L ++ x :: R), true) else (a :: (insM m (L ++ x :: R)).1, (insM m (L ++ x :: R)).2)) = ((if cmpMem m a = 0 then (a :: L, false) else if cmpMem m a < 0 then (m :: a :: L, true) else (a :: (insM m L).1, (insM m L).2)).1 ++ x :: R, (if cmpMem m a = 0 then (a :: L, false) else if cmpMem m a < 0 then (m :: a :: L, true) else (a :: (insM m L).1, (insM m L).2)).2)
    rw [insM_left m x R h L]
    by_cases h1 : cmpMem m a = 0
    · rw [if_pos h1, if_pos h1]; rfl
    · rw [if_neg h1, if_neg h1]
      by_cases h2 : cmpMem m a < 0
      · rw [if_pos h2, if_pos h2]; rfl
      · rw [if_neg h2, if_neg h2]; rfl
/-- All of a row stand ahead of a mutation. -/
def AheadM (m : Mut) (L : List Mut) : Prop := ∀ a ∈ L, 0 < cmpMem m a
theorem insM_ahead (m : Mut) (R : List Mut) : ∀ L : List Mut, AheadM m L → insM m (L ++ R) = (L ++ (insM m R).1, (insM m R).2)
  | [], _ => rfl
  | a :: L, h => by
    have h0 := h a (List.mem_cons_self ..)
    show (if cmpMem m a = 0 then (a :: (L ++ R), false) else if cmpMem m a < 0 then (m :: a :: (L ++ R), true) else (a :: (insM m (L ++ R)).1, (insM m (L ++ R)).2)) = _
    rw [if_neg (by omega), if_neg (by omega), insM_ahead m R L fun x hx => h x (List.mem_cons_of_mem _ hx)]
    rfl
/-- A mutation's way into a tree: where it is not ahead of a node's mutation, all that stands ahead of that node stands ahead of it. -/
def WayM (m : Mut) : TT → Prop
  | .nil => True
  | .node _ l e _ r => WayM m l ∧ WayM m r ∧ (0 ≤ cmpMem m e.m → AheadM m l.list)
theorem ins_zero (m : Mut) (l r : TT) (e : MutS) (h : cmpMem m e.m = 0) (ha : AheadM m l.list) : insM m (l.list ++ e.m :: r.list) = (l.list ++ e.m :: r.list, false) := by
  rw [insM_ahead m _ _ ha]
  show (l.list ++ (if cmpMem m e.m = 0 then (e.m :: r.list, false) else if cmpMem m e.m < 0 then (m :: e.m :: r.list, true) else (e.m :: (insM m r.list).1, (insM m r.list).2)).1, _) = _
  rw [if_pos h]
  show (_, (if cmpMem m e.m = 0 then (e.m :: r.list, false) else if cmpMem m e.m < 0 then (m :: e.m :: r.list, true) else (e.m :: (insM m r.list).1, (insM m r.list).2)).2) = _
  rw [if_pos h]
theorem ins_right (m : Mut) (l r : TT) (e : MutS) (h : 0 < cmpMem m e.m) (ha : AheadM m l.list) : insM m (l.list ++ e.m :: r.list) = (l.list ++ e.m :: (insM m r.list).1, (insM m r.list).2) := by
  have e1 : insM m (e.m :: r.list) = (e.m :: (insM m r.list).1, (insM m r.list).2) := by
    show (if cmpMem m e.m = 0 then (e.m :: r.list, false) else if cmpMem m e.m < 0 then (m :: e.m :: r.list, true) else (e.m :: (insM m r.list).1, (insM m r.list).2)) = _
    rw [if_neg (by omega), if_neg (by omega)]
  rw [insM_ahead m _ _ ha, e1]
end Go.Proofs.Ythbhbechemnidaa
