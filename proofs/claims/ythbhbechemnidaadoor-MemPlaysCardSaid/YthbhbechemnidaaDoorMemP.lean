/- A tree of mutations as it lies in memory; what stays when blocks are written. No function of the program is named here, and nothing is assumed. A node's side taken anew, and a node turned with its side: the tree lies as told. No function of the program is named here, and nothing is assumed. Contract of mem.put: a tree with a mutation more. Contract of mem.weigh: some number of 32 bits. Contracts of mem.Tree's Put and Len. -/
import Derived.Test.YthbhbechemnidaaDoorMutG
import Derived.Test.YthbhbechemnidaaDoorMemA
import Derived.Test.YthbhbechemnidaaDoorMixK
import Derived.Test.YthbhbechemnidaaDoorMutP
namespace Go.Proofs.YthbhbechemnidaaDoor
open Go.RowKit Go.Sort

/-- A tree: at a block, the mutations ahead, the mutation with its weight, those behind. -/
inductive TT where
  | nil : TT
  | node (g : Nat) (l : TT) (e : MutS) (wt : Int) (r : TT) : TT
def TT.adr : TT → Option Addr
  | .nil => none
  | .node g _ _ _ _ => some ⟨g, 0, none⟩
abbrev TT.ptr (t : TT) : Value := .pointer t.adr
def TT.list : TT → List Mut
  | .nil => []
  | .node _ l e _ r => l.list ++ e.m :: r.list
def TT.gs : TT → List Nat
  | .nil => []
  | .node g l _ _ r => g :: (l.gs ++ r.gs)
/-- A node's cells. -/
def nodeC (e : MutS) (wt : Int) (pl pr : Value) : Array Value := #[.int .i64 e.m.tab, .int .i64 e.m.kind, .string e.m.key, .string e.m.en, .string e.m.val, .int .i64 e.m.exp, .int .i64 e.m.at_.1, .int .i64 e.m.at_.2.1, .int .i64 e.m.at_.2.2, .slice e.A e.n e.c, .int .u32 wt, pl, pr]
/-- A mutation whose stamps are the tree's own. -/
def OwnE (w : World) (lo : Nat) (e : MutS) : Prop := OwnSt w lo (.slice e.A e.n e.c) e.m.ov ∧ e.n = e.m.ov.length ∧ e.n ≤ 1000000000 ∧ (e.A = none → e.c = 0)
/-- The tree lies in memory. -/
def TT.Lies (w : World) (lo : Nat) : TT → Prop
  | .nil => True
  | .node g l e wt r => lo ≤ g ∧ Blk w g 114 (nodeC e wt l.ptr r.ptr) ∧ OwnE w lo e ∧ l.Lies w lo ∧ r.Lies w lo

theorem TT.Lies.mem {w : World} {lo : Nat} : ∀ {t : TT}, t.Lies w lo → ∀ q ∈ t.gs, lo ≤ q ∧ ∃ cs, Blk w q 114 cs
  | .nil, _, q, hq => by cases hq
  | .node g l e wt r, h, q, hq => by
    obtain ⟨h1, h2, _, h4, h5⟩ := h
    rcases List.mem_cons.1 hq with rfl | hq
    · exact ⟨h1, _, h2⟩
    · rcases List.mem_append.1 hq with hq | hq
      · exact TT.Lies.mem h4 q hq
      · exact TT.Lies.mem h5 q hq
theorem TT.Lies.lt {w : World} {lo : Nat} {t : TT} (h : t.Lies w lo) : ∀ q ∈ t.gs, q < w.heap.size := fun q hq => by
  obtain ⟨_, cs, hb⟩ := h.mem q hq
  exact hb.lt
/-- All rows of stamps stand. -/
def StK (w w' : World) : Prop := ∀ (q : Nat) (cur : Array Value), w.heap[q]? = some (.cells cur 32) → w'.heap[q]? = some (.cells cur 32)
/-- A row of stamps lies in a block of stamps. -/
theorem ownSt_keep {w w' : World} {lo : Nat} {v : Value} {S : List (Int × Int × Int)} (h : OwnSt w lo v S) (hk : StK w w') : OwnSt w' lo v S := by
  refine ⟨h.1, ?_⟩
  rcases h.2 with h2 | ⟨g, cap, cur, hv, hg, hh, r⟩
  · exact .inl h2
  · exact .inr ⟨g, cap, cur, hv, hg, hk g _ hh, r⟩
theorem OwnE.keep {w w' : World} {lo : Nat} {e : MutS} (h : OwnE w lo e) (hk : StK w w') : OwnE w' lo e := ⟨ownSt_keep h.1 hk, h.2⟩
/-- The tree's own blocks and all that is no node stand: the tree lies as before. -/
theorem TT.Lies.keep {w w' : World} {lo : Nat} (hk : StK w w') : ∀ {t : TT}, t.Lies w lo → (∀ q ∈ t.gs, w'.heap[q]? = w.heap[q]?) → t.Lies w' lo
  | .nil, _, _ => trivial
  | .node g l e wt r, h, hg => by
    obtain ⟨h1, h2, h3, h4, h5⟩ := h
    exact ⟨h1, (hg g (List.mem_cons_self ..)).trans h2, h3.keep hk, TT.Lies.keep hk h4 fun q hq => hg q (List.mem_cons_of_mem _ (List.mem_append_left _ hq)), TT.Lies.keep hk h5 fun q hq => hg q (List.mem_cons_of_mem _ (List.mem_append_right _ hq))⟩
/-- What a step may turn: the blocks of some nodes. -/
structure Turned (G : List Nat) (w w' : World) : Prop where
  os : w'.os = w.os
  tape : w'.tape = w.tape
  output : w'.output = w.output
  size : w.heap.size ≤ w'.heap.size
  block : ∀ k, k < w.heap.size → k ∉ G → w'.heap[k]? = w.heap[k]?
theorem Turned.refl (G : List Nat) (w : World) : Turned G w w := ⟨rfl, rfl, rfl, Nat.le_refl _, fun _ _ _ => rfl⟩
theorem Turned.of_below {G : List Nat} {w w' : World} (b : Below w.heap.size w w') : Turned G w w' := ⟨b.os, b.tape, b.output, b.size, fun k hk _ => b.block k hk⟩
theorem Turned.trans {G : List Nat} {a b c : World} (h : Turned G a b) (h' : Turned G b c) : Turned G a c :=
  ⟨h'.os.trans h.os, h'.tape.trans h.tape, h'.output.trans h.output, Nat.le_trans h.size h'.size, fun k hk hG => (h'.block k (Nat.lt_of_lt_of_le hk h.size) hG).trans (h.block k hk hG)⟩
theorem Turned.mono {G G' : List Nat} {a b : World} (h : Turned G a b) (hs : ∀ q ∈ G, q ∈ G') : Turned G' a b := ⟨h.os, h.tape, h.output, h.size, fun k hk hG => h.block k hk (fun hq => hG (hs k hq))⟩
/-- Blocks that are new behind 'a' may turn, too. -/
theorem Turned.mono_new {G G' : List Nat} {a b c : World} (h : Turned G a b) (h' : Turned G' b c) (hs : ∀ q ∈ G', q ∈ G ∨ a.heap.size ≤ q) : Turned G a c :=
  ⟨h'.os.trans h.os, h'.tape.trans h.tape, h'.output.trans h.output, Nat.le_trans h.size h'.size, fun k hk hG => (h'.block k (Nat.lt_of_lt_of_le hk h.size) (fun hq => by
    rcases hs k hq with h1 | h1
    · exact hG h1
    · omega)).trans (h.block k hk hG)⟩
theorem Turned.set {G : List Nat} {w : World} {g : Nat} (hg : g ∈ G) (i : Nat) (u : Value) : Turned G w (w.setCell ⟨g, i, none⟩ u) :=
  ⟨rfl, rfl, rfl, by simp [World.setCell], fun k _ hG => Below.heap_setCell w _ u k (fun e => hG (e ▸ hg))⟩
theorem Turned.drew {G : List Nat} {a b : World} (h : Turned G a b) : Turned G a b.drew := ⟨h.os, h.tape, h.output, h.size, h.block⟩
theorem Turned.keepO {G : List Nat} {w w' : World} (h : Turned G w w') (hG : ∀ q ∈ G, ∃ cs, Blk w q 114 cs) : StK w w' := fun q cur hq => by
  have hlt := (Array.getElem?_eq_some_iff.1 hq).1
  rw [h.block q hlt (fun hqG => by
    obtain ⟨cs, hb⟩ := hG q hqG
    have hb' : w.heap[q]? = some (.cells cs 114) := hb
    rw [hb'] at hq
    injection hq with hq
    injection hq with _ hq _
    exact absurd hq (by decide))]
  exact hq
theorem Turned.keepR {r : Nat} {w w' : World} {cs : Array Value} (h : Turned [r] w w') (hr : Blk w r 27 cs) : StK w w' := fun q cur hq => by
  have hlt := (Array.getElem?_eq_some_iff.1 hq).1
  rw [h.block q hlt (fun hqG => by
    rw [List.mem_singleton.1 hqG] at hq
    have hb' : w.heap[r]? = some (.cells cs 27) := hr
    rw [hb'] at hq
    injection hq with hq
    injection hq with _ hq _
    exact absurd hq (by decide))]
  exact hq
theorem Turned.lies {G : List Nat} {w w' : World} {lo : Nat} {t : TT} (h : Turned G w w') (hG : ∀ q ∈ G, ∃ cs, Blk w q 114 cs) (ht : t.Lies w lo) (hd : ∀ q ∈ t.gs, q ∉ G) : t.Lies w' lo :=
  ht.keep (h.keepO hG) fun q hq => h.block q (ht.lt q hq) (hd q hq)
theorem Turned.ownE {G : List Nat} {w w' : World} {lo : Nat} {e : MutS} (h : Turned G w w') (hG : ∀ q ∈ G, ∃ cs, Blk w q 114 cs) (he : OwnE w lo e) : OwnE w' lo e := he.keep (h.keepO hG)

/-- A row in a tree's order with one more, if it isn't there; is it new? -/
def insM (m : Mut) : List Mut → List Mut × Bool
  | [] => ([m], true)
  | x :: l => if cmpMem m x = 0 then (x :: l, false) else if cmpMem m x < 0 then (m :: x :: l, true) else (x :: (insM m l).1, (insM m l).2)
theorem insM_left (m x : Mut) (R : List Mut) (h : cmpMem m x < 0) : ∀ L : List Mut, insM m (L ++ x :: R) = ((insM m L).1 ++ x :: R, (insM m L).2)
  | [] => by
    show (if cmpMem m x = 0 then (x :: R, false) else if cmpMem m x < 0 then (m :: x :: R, true) else (x :: (insM m R).1, (insM m R).2)) = _
    rw [if_neg (by omega), if_pos h]
    rfl
  | a :: L => by
    show (if cmpMem m a = 0 then (a :: (L ++ x :: R), false) else if cmpMem m a < 0 then (m :: a :: (L ++ x :: R), true) else (a :: (insM m (L ++ x :: R)).1, (insM m (L ++ x :: R)).2)) = ((if cmpMem m a = 0 then (a :: L, false) else if cmpMem m a < 0 then (m :: a :: L, true) else (a :: (insM m L).1, (insM m L).2)).1 ++ x :: R, (if cmpMem m a = 0 then (a :: L, false) else if cmpMem m a < 0 then (m :: a :: L, true) else (a :: (insM m L).1, (insM m L).2)).2)
    rw [insM_left m x R h L]
    by_cases h1 : cmpMem m a = 0
    · rw [if_pos h1, if_pos h1]; rfl
    · rw [if_neg h1, if_neg h1]
      by_cases h2 : cmpMem m a < 0
      · rw [if_pos h2, if_pos h2]; rfl
      · rw [if_neg h2, if_neg h2]; rfl
/-- All of a row stand ahead of a mutation. -/
def AheadM (m : Mut) (L : List Mut) : Prop := ∀ a ∈ L, 0 < cmpMem m a
theorem insM_ahead (m : Mut) (R : List Mut) : ∀ L : List Mut, AheadM m L → insM m (L ++ R) = (L ++ (insM m R).1, (insM m R).2)
  | [], _ => rfl
  | a :: L, h => by
    have h0 := h a (List.mem_cons_self ..)
    show (if cmpMem m a = 0 then (a :: (L ++ R), false) else if cmpMem m a < 0 then (m :: a :: (L ++ R), true) else (a :: (insM m (L ++ R)).1, (insM m (L ++ R)).2)) = _
    rw [if_neg (by omega), if_neg (by omega), insM_ahead m R L fun x hx => h x (List.mem_cons_of_mem _ hx)]
    rfl
/-- A mutation's way into a tree: where it is not ahead of a node's mutation, all that stands ahead of that node stands ahead of it. -/
def WayM (m : Mut) : TT → Prop
  | .nil => True
  | .node _ l e _ r => WayM m l ∧ WayM m r ∧ (0 ≤ cmpMem m e.m → AheadM m l.list)
theorem ins_zero (m : Mut) (l r : TT) (e : MutS) (h : cmpMem m e.m = 0) (ha : AheadM m l.list) : insM m (l.list ++ e.m :: r.list) = (l.list ++ e.m :: r.list, false) := by
  rw [insM_ahead m _ _ ha]
  show (l.list ++ (if cmpMem m e.m = 0 then (e.m :: r.list, false) else if cmpMem m e.m < 0 then (m :: e.m :: r.list, true) else (e.m :: (insM m r.list).1, (insM m r.list).2)).1, _) = _
  rw [if_pos h]
  show (_, (if cmpMem m e.m = 0 then (e.m :: r.list, false) else if cmpMem m e.m < 0 then (m :: e.m :: r.list, true) else (e.m :: (insM m r.list).1, (insM m r.list).2)).2) = _
  rw [if_pos h]
theorem ins_right (m : Mut) (l r : TT) (e : MutS) (h : 0 < cmpMem m e.m) (ha : AheadM m l.list) : insM m (l.list ++ e.m :: r.list) = (l.list ++ e.m :: (insM m r.list).1, (insM m r.list).2) := by
  have e1 : insM m (e.m :: r.list) = (e.m :: (insM m r.list).1, (insM m r.list).2) := by
    show (if cmpMem m e.m = 0 then (e.m :: r.list, false) else if cmpMem m e.m < 0 then (m :: e.m :: r.list, true) else (e.m :: (insM m r.list).1, (insM m r.list).2)) = _
    rw [if_neg (by omega), if_neg (by omega)]
  rw [insM_ahead m _ _ ha, e1]
end Go.Proofs.YthbhbechemnidaaDoor

namespace Go.Proofs.YthbhbechemnidaaDoor
open Go.RowKit Go.Sort

theorem nodup_parts {g : Nat} {L R : List Nat} (h : (g :: (L ++ R)).Nodup) : g ∉ L ∧ g ∉ R ∧ L.Nodup ∧ R.Nodup ∧ ∀ q ∈ L, q ∉ R := by
  obtain ⟨h1, h2⟩ := List.nodup_cons.1 h
  obtain ⟨h3, h4, h5⟩ := List.nodup_append.1 h2
  exact ⟨fun hq => h1 (List.mem_append_left _ hq), fun hq => h1 (List.mem_append_right _ hq), h3, h4, fun q hq hr => h5 q hq q hr rfl⟩
theorem nodup_of {g : Nat} {L R : List Nat} (h1 : g ∉ L) (h2 : g ∉ R) (h3 : L.Nodup) (h4 : R.Nodup) (h5 : ∀ q ∈ L, q ∉ R) : (g :: (L ++ R)).Nodup :=
  List.nodup_cons.2 ⟨fun hq => (List.mem_append.1 hq).elim h1 h2, List.nodup_append.2 ⟨h3, h4, fun q hq _ hr e => h5 q hq (e ▸ hr)⟩⟩
theorem gs_blk {w : World} {lo : Nat} {t : TT} (h : t.Lies w lo) : ∀ q ∈ t.gs, ∃ cs, Blk w q 114 cs := fun q hq => (h.mem q hq).2
/-- The tree t' stands where t stood: its blocks are t's or new. -/
structure Anew (w : World) (lo : Nat) (t t' : TT) (w' : World) : Prop where
  lies : t'.Lies w' lo
  nd : t'.gs.Nodup
  sub : ∀ q ∈ t'.gs, q ∈ t.gs ∨ w.heap.size ≤ q
  tr : Turned t.gs w w'
theorem Anew.refl {w : World} {lo : Nat} {t : TT} (h : t.Lies w lo) (hn : t.gs.Nodup) : Anew w lo t t w := ⟨h, hn, fun _ h => .inl h, Turned.refl _ _⟩
theorem Anew.below {w w' w'' : World} {lo : Nat} {t t' : TT} (h : Anew w lo t t' w') (b : Below w'.heap.size w' w'') : Anew w lo t t' w'' :=
  ⟨(Turned.of_below (G := []) b).lies (fun _ h => by cases h) h.lies (fun _ _ h => by cases h), h.nd, h.sub, h.tr.trans (Turned.of_below b)⟩
theorem Anew.then_ {w w' w'' : World} {lo : Nat} {t t' t'' : TT} (h : Anew w lo t t' w') (h' : Anew w' lo t' t'' w'') : Anew w lo t t'' w'' :=
  ⟨h'.lies, h'.nd, fun q hq => (h'.sub q hq).elim (h.sub q) (fun h1 => .inr (Nat.le_trans h.tr.size h1)), h.tr.mono_new h'.tr h.sub⟩

/-- A node's left side taken anew. -/
theorem anew_left {w w3 : World} {lo g : Nat} {l r x : TT} {e : MutS} {wt : Int} (h : (TT.node g l e wt r).Lies w lo) (hn : (TT.node g l e wt r).gs.Nodup) (a : Anew w lo l x w3) :
    Anew w lo (TT.node g l e wt r) (TT.node g x e wt r) (w3.setCell ⟨g, 11, none⟩ x.ptr) := by
  obtain ⟨h1, h2, h3, h4, h5⟩ := h
  obtain ⟨n1, n2, n3, n4, n5⟩ := nodup_parts hn
  have hgl : g < w.heap.size := h2.lt
  have gO : g ∉ l.gs := n1
  have hb3 : Blk w3 g 114 (nodeC e wt l.ptr r.ptr) := (a.tr.block g hgl gO).trans h2
  have gx : g ∉ x.gs := fun hq => (a.sub g hq).elim gO (fun h => by omega)
  have oth3 : r.Lies w3 lo := a.tr.lies (gs_blk h4) h5 (fun q hq hq2 => n5 q hq2 hq)
  have e3 : OwnE w3 lo e := a.tr.ownE (gs_blk h4) h3
  have ts : Turned [g] w3 (w3.setCell ⟨g, 11, none⟩ x.ptr) := Turned.set (List.mem_cons_self ..) _ _
  have hbs : ∀ q ∈ [g], ∃ cs, Blk w3 q 114 cs := fun q hq => by rw [List.mem_singleton.1 hq]; exact ⟨_, hb3⟩
  have x4 : x.Lies (w3.setCell ⟨g, 11, none⟩ x.ptr) lo := ts.lies hbs a.lies (fun q hq h => gx (by rw [← List.mem_singleton.1 h]; exact hq))
  have o4 : r.Lies (w3.setCell ⟨g, 11, none⟩ x.ptr) lo := ts.lies hbs oth3 (fun q hq h => n2 (by rw [← List.mem_singleton.1 h]; exact hq))
  refine ⟨⟨h1, hb3.set_ 11 x.ptr, ts.ownE hbs e3, x4, o4⟩, nodup_of gx n2 a.nd n4 (fun q hq hr => (a.sub q hq).elim (fun h => n5 q h hr) (fun h => by have := h5.lt q hr; omega)), fun q hq => ?_, (a.tr.mono (fun q hq => List.mem_cons_of_mem _ (List.mem_append_left _ hq))).trans (ts.mono (fun q hq => by rw [List.mem_singleton.1 hq]; exact List.mem_cons_self ..))⟩
  rcases List.mem_cons.1 hq with rfl | hq
  · exact .inl (List.mem_cons_self ..)
  · rcases List.mem_append.1 hq with hq | hq
    · exact (a.sub q hq).imp (fun h => List.mem_cons_of_mem _ (List.mem_append_left _ h)) id
    · exact .inl (List.mem_cons_of_mem _ (List.mem_append_right _ hq))

/-- A node's right side taken anew. -/
theorem anew_right {w w3 : World} {lo g : Nat} {l r x : TT} {e : MutS} {wt : Int} (h : (TT.node g l e wt r).Lies w lo) (hn : (TT.node g l e wt r).gs.Nodup) (a : Anew w lo r x w3) :
    Anew w lo (TT.node g l e wt r) (TT.node g l e wt x) (w3.setCell ⟨g, 12, none⟩ x.ptr) := by
  obtain ⟨h1, h2, h3, h4, h5⟩ := h
  obtain ⟨n1, n2, n3, n4, n5⟩ := nodup_parts hn
  have hgl : g < w.heap.size := h2.lt
  have gO : g ∉ r.gs := n2
  have hb3 : Blk w3 g 114 (nodeC e wt l.ptr r.ptr) := (a.tr.block g hgl gO).trans h2
  have gx : g ∉ x.gs := fun hq => (a.sub g hq).elim gO (fun h => by omega)
  have oth3 : l.Lies w3 lo := a.tr.lies (gs_blk h5) h4 (fun q hq hq2 => n5 q hq hq2)
  have e3 : OwnE w3 lo e := a.tr.ownE (gs_blk h5) h3
  have ts : Turned [g] w3 (w3.setCell ⟨g, 12, none⟩ x.ptr) := Turned.set (List.mem_cons_self ..) _ _
  have hbs : ∀ q ∈ [g], ∃ cs, Blk w3 q 114 cs := fun q hq => by rw [List.mem_singleton.1 hq]; exact ⟨_, hb3⟩
  have x4 : x.Lies (w3.setCell ⟨g, 12, none⟩ x.ptr) lo := ts.lies hbs a.lies (fun q hq h => gx (by rw [← List.mem_singleton.1 h]; exact hq))
  have o4 : l.Lies (w3.setCell ⟨g, 12, none⟩ x.ptr) lo := ts.lies hbs oth3 (fun q hq h => n1 (by rw [← List.mem_singleton.1 h]; exact hq))
  refine ⟨⟨h1, hb3.set_ 12 x.ptr, ts.ownE hbs e3, o4, x4⟩, nodup_of n1 gx n3 a.nd (fun q hq hr => (a.sub q hr).elim (fun h => n5 q hq h) (fun h => by have := h4.lt q hq; omega)), fun q hq => ?_, (a.tr.mono (fun q hq => List.mem_cons_of_mem _ (List.mem_append_right _ hq))).trans (ts.mono (fun q hq => by rw [List.mem_singleton.1 hq]; exact List.mem_cons_self ..))⟩
  rcases List.mem_cons.1 hq with rfl | hq
  · exact .inl (List.mem_cons_self ..)
  · rcases List.mem_append.1 hq with hq | hq
    · exact .inl (List.mem_cons_of_mem _ (List.mem_append_left _ hq))
    · exact (a.sub q hq).imp (fun h => List.mem_cons_of_mem _ (List.mem_append_right _ h)) id

/-- A node turned with its left side. -/
theorem turn_left {w : World} {lo g gl : Nat} {ll lr r : TT} {e el : MutS} {wt wl : Int} (h : (TT.node g (TT.node gl ll el wl lr) e wt r).Lies w lo) (hn : (TT.node g (TT.node gl ll el wl lr) e wt r).gs.Nodup) :
    Anew w lo (TT.node g (TT.node gl ll el wl lr) e wt r) (TT.node gl ll el wl (TT.node g lr e wt r)) ((w.setCell ⟨g, 11, none⟩ lr.ptr).setCell ⟨gl, 12, none⟩ (.pointer (some ⟨g, 0, none⟩))) := by
  obtain ⟨h1, h2, h3, ⟨k1, k2, k3, k4, k5⟩, h5⟩ := h
  obtain ⟨n1, n2, n3, n4, n5⟩ := nodup_parts hn
  obtain ⟨m1, m2, m3, m4, m5⟩ := nodup_parts n3
  have hne : g ≠ gl := fun e => n1 (by rw [e]; exact List.mem_cons_self ..)
  have gll : g ∉ ll.gs := fun h => n1 (List.mem_cons_of_mem _ (List.mem_append_left _ h))
  have glr : g ∉ lr.gs := fun h => n1 (List.mem_cons_of_mem _ (List.mem_append_right _ h))
  have glR : gl ∉ r.gs := n5 gl (List.mem_cons_self ..)
  have lR : ∀ q ∈ ll.gs, q ∉ r.gs := fun q hq => n5 q (List.mem_cons_of_mem _ (List.mem_append_left _ hq))
  have rR : ∀ q ∈ lr.gs, q ∉ r.gs := fun q hq => n5 q (List.mem_cons_of_mem _ (List.mem_append_right _ hq))
  have hG : ∀ q ∈ [g, gl], ∃ cs, Blk w q 114 cs := fun q hq => by
    rcases List.mem_cons.1 hq with rfl | hq
    · exact ⟨_, h2⟩
    · rw [List.mem_singleton.1 hq]; exact ⟨_, k2⟩
  have T : Turned [g, gl] w ((w.setCell ⟨g, 11, none⟩ lr.ptr).setCell ⟨gl, 12, none⟩ (.pointer (some ⟨g, 0, none⟩))) := (Turned.set (List.mem_cons_self ..) _ _).trans (Turned.set (List.mem_cons_of_mem _ (List.mem_cons_self ..)) _ _)
  have out : ∀ {t : TT}, g ∉ t.gs → gl ∉ t.gs → ∀ q ∈ t.gs, q ∉ [g, gl] := fun a b q hq h => by
    rcases List.mem_cons.1 h with rfl | h
    · exact a hq
    · rw [List.mem_singleton.1 h] at hq; exact b hq
  refine ⟨⟨k1, (k2.far (p := ⟨g, 11, none⟩) (Ne.symm hne) lr.ptr).set_ 12 _, T.ownE hG k3, T.lies hG k4 (out gll m1), h1, (h2.set_ 11 lr.ptr).far (p := ⟨gl, 12, none⟩) hne _, T.ownE hG h3, T.lies hG k5 (out glr m2), T.lies hG h5 (out n2 glR)⟩, ?_, fun q hq => .inl ?_, T.mono ?_⟩
  · refine nodup_of m1 ?_ m3 (nodup_of glr n2 m4 n4 rR) (fun q hq h => ?_)
    · intro h
      rcases List.mem_cons.1 h with h | h
      · exact hne h.symm
      · exact (List.mem_append.1 h).elim m2 glR
    · rcases List.mem_cons.1 h with rfl | h
      · exact gll hq
      · exact (List.mem_append.1 h).elim (m5 q hq) (lR q hq)
  · rcases List.mem_cons.1 hq with rfl | hq
    · exact List.mem_cons_of_mem _ (List.mem_append_left _ (List.mem_cons_self ..))
    · rcases List.mem_append.1 hq with hq | hq
      · exact List.mem_cons_of_mem _ (List.mem_append_left _ (List.mem_cons_of_mem _ (List.mem_append_left _ hq)))
      · rcases List.mem_cons.1 hq with rfl | hq
        · exact List.mem_cons_self ..
        · rcases List.mem_append.1 hq with hq | hq
          · exact List.mem_cons_of_mem _ (List.mem_append_left _ (List.mem_cons_of_mem _ (List.mem_append_right _ hq)))
          · exact List.mem_cons_of_mem _ (List.mem_append_right _ hq)
  · intro q hq
    rcases List.mem_cons.1 hq with rfl | hq
    · exact List.mem_cons_self ..
    · rw [List.mem_singleton.1 hq]
      exact List.mem_cons_of_mem _ (List.mem_append_left _ (List.mem_cons_self ..))
/-- A node turned with its right side. -/
theorem turn_right {w : World} {lo g gr : Nat} {l rl rr : TT} {e er : MutS} {wt wr : Int} (h : (TT.node g l e wt (TT.node gr rl er wr rr)).Lies w lo) (hn : (TT.node g l e wt (TT.node gr rl er wr rr)).gs.Nodup) :
    Anew w lo (TT.node g l e wt (TT.node gr rl er wr rr)) (TT.node gr (TT.node g l e wt rl) er wr rr) ((w.setCell ⟨g, 12, none⟩ rl.ptr).setCell ⟨gr, 11, none⟩ (.pointer (some ⟨g, 0, none⟩))) := by
  obtain ⟨h1, h2, h3, h4, ⟨k1, k2, k3, k4, k5⟩⟩ := h
  obtain ⟨n1, n2, n3, n4, n5⟩ := nodup_parts hn
  obtain ⟨m1, m2, m3, m4, m5⟩ := nodup_parts n4
  have hne : g ≠ gr := fun e => n2 (by rw [e]; exact List.mem_cons_self ..)
  have grl : g ∉ rl.gs := fun h => n2 (List.mem_cons_of_mem _ (List.mem_append_left _ h))
  have grr : g ∉ rr.gs := fun h => n2 (List.mem_cons_of_mem _ (List.mem_append_right _ h))
  have grL : gr ∉ l.gs := fun h => n5 gr h (List.mem_cons_self ..)
  have lL : ∀ q ∈ l.gs, q ∉ rl.gs := fun q hq h => n5 q hq (List.mem_cons_of_mem _ (List.mem_append_left _ h))
  have lR : ∀ q ∈ l.gs, q ∉ rr.gs := fun q hq h => n5 q hq (List.mem_cons_of_mem _ (List.mem_append_right _ h))
  have hG : ∀ q ∈ [g, gr], ∃ cs, Blk w q 114 cs := fun q hq => by
    rcases List.mem_cons.1 hq with rfl | hq
    · exact ⟨_, h2⟩
    · rw [List.mem_singleton.1 hq]; exact ⟨_, k2⟩
  have T : Turned [g, gr] w ((w.setCell ⟨g, 12, none⟩ rl.ptr).setCell ⟨gr, 11, none⟩ (.pointer (some ⟨g, 0, none⟩))) := (Turned.set (List.mem_cons_self ..) _ _).trans (Turned.set (List.mem_cons_of_mem _ (List.mem_cons_self ..)) _ _)
  have out : ∀ {t : TT}, g ∉ t.gs → gr ∉ t.gs → ∀ q ∈ t.gs, q ∉ [g, gr] := fun a b q hq h => by
    rcases List.mem_cons.1 h with rfl | h
    · exact a hq
    · rw [List.mem_singleton.1 h] at hq; exact b hq
  refine ⟨⟨k1, (k2.far (p := ⟨g, 12, none⟩) (Ne.symm hne) rl.ptr).set_ 11 _, T.ownE hG k3, ⟨h1, (h2.set_ 12 rl.ptr).far (p := ⟨gr, 11, none⟩) hne _, T.ownE hG h3, T.lies hG h4 (out n1 grL), T.lies hG k4 (out grl m1)⟩, T.lies hG k5 (out grr m2)⟩, ?_, fun q hq => .inl ?_, T.mono ?_⟩
  · refine nodup_of ?_ m2 (nodup_of n1 grl n3 m3 lL) m4 (fun q hq h => ?_)
    · intro h
      rcases List.mem_cons.1 h with h | h
      · exact hne h.symm
      · exact (List.mem_append.1 h).elim grL m1
    · rcases List.mem_cons.1 hq with rfl | hq
      · exact grr h
      · exact (List.mem_append.1 hq).elim (fun hq => lR q hq h) (fun hq => m5 q hq h)
  · rcases List.mem_cons.1 hq with rfl | hq
    · exact List.mem_cons_of_mem _ (List.mem_append_right _ (List.mem_cons_self ..))
    · rcases List.mem_append.1 hq with hq | hq
      · rcases List.mem_cons.1 hq with rfl | hq
        · exact List.mem_cons_self ..
        · rcases List.mem_append.1 hq with hq | hq
          · exact List.mem_cons_of_mem _ (List.mem_append_left _ hq)
          · exact List.mem_cons_of_mem _ (List.mem_append_right _ (List.mem_cons_of_mem _ (List.mem_append_left _ hq)))
      · exact List.mem_cons_of_mem _ (List.mem_append_right _ (List.mem_cons_of_mem _ (List.mem_append_right _ hq)))
  · intro q hq
    rcases List.mem_cons.1 hq with rfl | hq
    · exact List.mem_cons_self ..
    · rw [List.mem_singleton.1 hq]
      exact List.mem_cons_of_mem _ (List.mem_append_right _ (List.mem_cons_self ..))
end Go.Proofs.YthbhbechemnidaaDoor

namespace Go.Proofs.YthbhbechemnidaaDoor
open Go.RowKit Go.Sort

/-- What put hands back: the tree, and whether the mutation is new. -/
def PutTo (w : World) (lo : Nat) (e0 : MutS) (t : TT) (e : Ending) (w' : World) : Prop :=
  ∃ t', e = .returned (.tuple #[.pointer t'.adr, .bool (insM e0.m t.list).2]) ∧ Anew w lo t t' w' ∧ t'.list = (insM e0.m t.list).1 ∧ ∃ g l x wx r, t' = TT.node g l x wx r
theorem adr_nil : TT.adr .nil = none := rfl
theorem adr_node (g : Nat) (l : TT) (e : MutS) (wt : Int) (r : TT) : (TT.node g l e wt r).adr = some ⟨g, 0, none⟩ := rfl
theorem Anew.drew {w w' : World} {lo : Nat} {t t' : TT} (h : Anew w lo t t' w') : Anew w lo t t' w'.drew := h.below (below_drewN (Below.refl w'.heap.size w') 1)
theorem OwnE.below {w w' : World} {lo : Nat} {e : MutS} (h : OwnE w lo e) (b : Below w.heap.size w w') : OwnE w' lo e := (Turned.of_below (G := []) b).ownE (fun _ h => by cases h) h
theorem OwnE.rd {w : World} {lo : Nat} {e : MutS} (h : OwnE w lo e) : Reads w w.heap.size 3 e.A e.n (e.m.ov.flatMap sc) := by
  have h1 := h.1
  unfold OwnSt at h1
  rw [h.2.1]
  have h2 := h.2.1
  have h3 : OwnSt w lo (.slice e.A e.m.ov.length e.c) e.m.ov := by rw [← h2]; exact h.1
  exact Reads.of_own h3

set_option maxRecDepth 100000 in
set_option maxHeartbeats 8000000 in
theorem mem_put (e0 : MutS) (wt : Int) (lo : Nat) : ∀ (t : TT) (w : World), OwnE w lo e0 → t.Lies w lo → t.gs.Nodup → WayM e0.m t → lo ≤ w.heap.size →
    Calls Tryd.prog 61 #[.pointer t.adr, .agg (mutC e0.m (.slice e0.A e0.n e0.c)), .int .u32 wt] w (PutTo w lo e0 t) := by
  intro t
  induction t with
  | nil =>
    intro w hE _ _ _ hlo
    have BK := Blk.new w 35 (mutC e0.m (.slice e0.A e0.n e0.c))
    have b1 : Below w.heap.size w (w.alloc (.cells (mutC e0.m (.slice e0.A e0.n e0.c)) 35)) := (Below.refl _ _).alloc (Nat.le_refl _) _
    have b2 := b1.alloc b1.size (.cells (nodeC e0 wt (.pointer none) (.pointer none)) 114)
    have BN := Blk.new (w.alloc (.cells (mutC e0.m (.slice e0.A e0.n e0.c)) 35)) 114 (nodeC e0 wt (.pointer none) (.pointer none))
    have HE := Lib.hid (hE.below b2)
    have hA := Lib.hid (show Anew w lo .nil (TT.node (w.heap.size + 1) .nil e0 wt .nil) ((w.alloc (.cells (mutC e0.m (.slice e0.A e0.n e0.c)) 35)).alloc (.cells (nodeC e0 wt (.pointer none) (.pointer none)) 114)) from
      ⟨⟨by omega, by rw [World.size_alloc] at BN; exact BN, HE.out, trivial, trivial⟩, by simp [TT.gs], fun q hq => .inr (by rcases List.mem_cons.1 hq with rfl | hq; omega; cases hq), Turned.of_below b2⟩)
    have c0 : (w.alloc (.cells (mutC e0.m (.slice e0.A e0.n e0.c)) 35)).cell? ⟨w.heap.size, 0, none⟩ = some (.int .i64 e0.m.tab) := BK.cell 0
    have c1 : (w.alloc (.cells (mutC e0.m (.slice e0.A e0.n e0.c)) 35)).cell? ⟨w.heap.size, 1, none⟩ = some (.int .i64 e0.m.kind) := BK.cell 1
    have c2 : (w.alloc (.cells (mutC e0.m (.slice e0.A e0.n e0.c)) 35)).cell? ⟨w.heap.size, 2, none⟩ = some (.string e0.m.key) := BK.cell 2
    have c3 : (w.alloc (.cells (mutC e0.m (.slice e0.A e0.n e0.c)) 35)).cell? ⟨w.heap.size, 3, none⟩ = some (.string e0.m.en) := BK.cell 3
    have c4 : (w.alloc (.cells (mutC e0.m (.slice e0.A e0.n e0.c)) 35)).cell? ⟨w.heap.size, 4, none⟩ = some (.string e0.m.val) := BK.cell 4
    have c5 : (w.alloc (.cells (mutC e0.m (.slice e0.A e0.n e0.c)) 35)).cell? ⟨w.heap.size, 5, none⟩ = some (.int .i64 e0.m.exp) := BK.cell 5
    have c6 : (w.alloc (.cells (mutC e0.m (.slice e0.A e0.n e0.c)) 35)).cell? ⟨w.heap.size, 6, none⟩ = some (.int .i64 e0.m.at_.1) := BK.cell 6
    have c7 : (w.alloc (.cells (mutC e0.m (.slice e0.A e0.n e0.c)) 35)).cell? ⟨w.heap.size, 7, none⟩ = some (.int .i64 e0.m.at_.2.1) := BK.cell 7
    have c8 : (w.alloc (.cells (mutC e0.m (.slice e0.A e0.n e0.c)) 35)).cell? ⟨w.heap.size, 8, none⟩ = some (.int .i64 e0.m.at_.2.2) := BK.cell 8
    have c9 : (w.alloc (.cells (mutC e0.m (.slice e0.A e0.n e0.c)) 35)).cell? ⟨w.heap.size, 9, none⟩ = some (.slice e0.A e0.n e0.c) := BK.cell 9
    clear hE BN b1 b2 BK
    simp only [adr_nil]
    go_enter Tryd.func61, Tryd.ntmps61
    go_wp2_with fail
    go_returns
    exact ⟨TT.node (w.heap.size + 1) .nil e0 wt .nil, rfl, hA.out, rfl, _, _, _, _, _, rfl⟩
  | node g tl x wx tr IHl IHr =>
    intro w hE hL hN hW hlo
    have BK := Blk.new w 35 (mutC e0.m (.slice e0.A e0.n e0.c))
    have b1 : Below w.heap.size w (w.alloc (.cells (mutC e0.m (.slice e0.A e0.n e0.c)) 35)) := (Below.refl _ _).alloc (Nat.le_refl _) _
    have a1 := (Anew.refl hL hN).below b1
    have e1 := hE.below b1
    have HN := Lib.hid hN
    have HW := Lib.hid hW
    obtain ⟨n1, n2, n3, n4, n5⟩ := nodup_parts hN
    have hgl : g < w.heap.size := hL.2.1.lt
    have HLl := Lib.hid (hL.2.2.2.1.lt)
    have HLr := Lib.hid (hL.2.2.2.2.lt)
    have HND := Lib.hid (And.intro n1 (And.intro n2 (And.intro n3 n4)))
    have hb1s := b1.size
    obtain ⟨R, hR⟩ : ∃ R, cmpMem e0.m x.m = R := ⟨_, rfl⟩
    have HR := Lib.hid hR
    clear hN hW n1 n2 n3 n4 n5 hL hE
    simp only [adr_node]
    go_enter Tryd.func61, Tryd.ntmps61
    go_upto_region 4 with fail
    change Code.wp _ _ _ _ (w.alloc (.cells (mutC e0.m (.slice e0.A e0.n e0.c)) 35))
    generalize w.alloc (.cells (mutC e0.m (.slice e0.A e0.n e0.c)) 35) = W at *
    have BG : Blk W g 114 (nodeC x wx (.pointer tl.adr) (.pointer tr.adr)) := a1.lies.2.1
    have C4 := Lib.hid (mem_Compare e0.m x.m e0.A x.A e0.n e0.c x.n x.c W.drew (e1.rd.drewN 1) (OwnE.rd a1.lies.2.2.1 |>.drewN 1) e1.2.2.1)
    rw [hR] at C4
    unfold mutC at C4
    clear hR
    have q0 : ∀ p : Kept (fun _ => True) W.drew, p.v.cell? ⟨w.heap.size, 0, none⟩ = some (.int .i64 e0.m.tab) := fun p => p.h.cell (trivial) (BK.drew.cell 0)
    have q1 : ∀ p : Kept (fun _ => True) W.drew, p.v.cell? ⟨w.heap.size, 1, none⟩ = some (.int .i64 e0.m.kind) := fun p => p.h.cell (trivial) (BK.drew.cell 1)
    have q2 : ∀ p : Kept (fun _ => True) W.drew, p.v.cell? ⟨w.heap.size, 2, none⟩ = some (.string e0.m.key) := fun p => p.h.cell (trivial) (BK.drew.cell 2)
    have q3 : ∀ p : Kept (fun _ => True) W.drew, p.v.cell? ⟨w.heap.size, 3, none⟩ = some (.string e0.m.en) := fun p => p.h.cell (trivial) (BK.drew.cell 3)
    have q4 : ∀ p : Kept (fun _ => True) W.drew, p.v.cell? ⟨w.heap.size, 4, none⟩ = some (.string e0.m.val) := fun p => p.h.cell (trivial) (BK.drew.cell 4)
    have q5 : ∀ p : Kept (fun _ => True) W.drew, p.v.cell? ⟨w.heap.size, 5, none⟩ = some (.int .i64 e0.m.exp) := fun p => p.h.cell (trivial) (BK.drew.cell 5)
    have q6 : ∀ p : Kept (fun _ => True) W.drew, p.v.cell? ⟨w.heap.size, 6, none⟩ = some (.int .i64 e0.m.at_.1) := fun p => p.h.cell (trivial) (BK.drew.cell 6)
    have q7 : ∀ p : Kept (fun _ => True) W.drew, p.v.cell? ⟨w.heap.size, 7, none⟩ = some (.int .i64 e0.m.at_.2.1) := fun p => p.h.cell (trivial) (BK.drew.cell 7)
    have q8 : ∀ p : Kept (fun _ => True) W.drew, p.v.cell? ⟨w.heap.size, 8, none⟩ = some (.int .i64 e0.m.at_.2.2) := fun p => p.h.cell (trivial) (BK.drew.cell 8)
    have q9 : ∀ p : Kept (fun _ => True) W.drew, p.v.cell? ⟨w.heap.size, 9, none⟩ = some (.slice e0.A e0.n e0.c) := fun p => p.h.cell (trivial) (BK.drew.cell 9)
    have t0 : ∀ p : Kept (fun _ => True) W.drew, p.v.cell? ⟨g, 0, none⟩ = some (.int .i64 x.m.tab) := fun p => p.h.cell (trivial) (BG.drew.cell 0)
    have t1 : ∀ p : Kept (fun _ => True) W.drew, p.v.cell? ⟨g, 1, none⟩ = some (.int .i64 x.m.kind) := fun p => p.h.cell (trivial) (BG.drew.cell 1)
    have t2 : ∀ p : Kept (fun _ => True) W.drew, p.v.cell? ⟨g, 2, none⟩ = some (.string x.m.key) := fun p => p.h.cell (trivial) (BG.drew.cell 2)
    have t3 : ∀ p : Kept (fun _ => True) W.drew, p.v.cell? ⟨g, 3, none⟩ = some (.string x.m.en) := fun p => p.h.cell (trivial) (BG.drew.cell 3)
    have t4 : ∀ p : Kept (fun _ => True) W.drew, p.v.cell? ⟨g, 4, none⟩ = some (.string x.m.val) := fun p => p.h.cell (trivial) (BG.drew.cell 4)
    have t5 : ∀ p : Kept (fun _ => True) W.drew, p.v.cell? ⟨g, 5, none⟩ = some (.int .i64 x.m.exp) := fun p => p.h.cell (trivial) (BG.drew.cell 5)
    have t6 : ∀ p : Kept (fun _ => True) W.drew, p.v.cell? ⟨g, 6, none⟩ = some (.int .i64 x.m.at_.1) := fun p => p.h.cell (trivial) (BG.drew.cell 6)
    have t7 : ∀ p : Kept (fun _ => True) W.drew, p.v.cell? ⟨g, 7, none⟩ = some (.int .i64 x.m.at_.2.1) := fun p => p.h.cell (trivial) (BG.drew.cell 7)
    have t8 : ∀ p : Kept (fun _ => True) W.drew, p.v.cell? ⟨g, 8, none⟩ = some (.int .i64 x.m.at_.2.2) := fun p => p.h.cell (trivial) (BG.drew.cell 8)
    have t9 : ∀ p : Kept (fun _ => True) W.drew, p.v.cell? ⟨g, 9, none⟩ = some (.slice x.A x.n x.c) := fun p => p.h.cell (trivial) (BG.drew.cell 9)
    refine wp_region_mixDk (M := []) (fun _ => True) [0, 1, 2, 3, 4, 5, 6] (by kernel_rfl) (by kernel_rfl) ?_
    iterate 2 (refine mix_calmDk rfl rfl ?_; go_big_quiet_step (fail); refine wpQuiet_nil ?_)
    refine mix_loudDk rfl (by kernel_rfl) rfl ?_
    intro K1 hK1
    have HK := Lib.hid hK1
    clear hK1 
    go_wp2_with fail
    refine HK.out _ _ (Stand.refl _ _) ?_
    clear HK
    iterate 2 (refine mix_calmDk rfl rfl ?_; go_big_quiet_step (fail); refine wpQuiet_nil ?_)
    refine mix_loudDk rfl (by kernel_rfl) rfl ?_
    intro K1 hK1
    have HK := Lib.hid hK1
    clear hK1 q0 q1 q2 q3 q4 q5 q6 q7 q8 q9 t0 t1 t2 t3 t4 t5 t6 t7 t8 t9
    go_wp2_with fail
    refine (C4.out).mono ?_
    rintro x w4 ⟨rfl, b4⟩
    have HS9 := Lib.hid (Stand.of_below (S := fun _ => True) b4)
    have b4' : Below W.heap.size W w4 := (below_drewN (Below.refl W.heap.size W) 1).trans b4
    replace a1 := a1.below b4'
    replace e1 := e1.below b4'
    replace BK := BK.below b4' BK.lt
    have hs4 : W.heap.size ≤ w4.heap.size := b4'.size
    clear b4 b4' C4 BG
    go_wp2_with fail
    refine HK.out _ _ (HS9.out) ?_
    clear HK
    clear HS9
    iterate 1 (refine mix_calmDk rfl rfl ?_; go_big_quiet_step (fail); refine wpQuiet_nil ?_)
    refine mix_endDk ?_
    have hs0 := BK.lt
    rcases Int.lt_trichotomy R 0 with hlt | heq | hgt
    · have d1 : (R == 0) = false := by simp; omega
      have d2 : decide (R < 0) = true := by simp; omega
      have hR0 := Lib.hid hlt
      clear hlt
      go_upto_region 13 with fail
      have BG : Blk w4 g 114 (nodeC x wx (.pointer tl.adr) (.pointer tr.adr)) := a1.lies.2.1
      have hgb : g < w4.heap.size ∧ w.heap.size < w4.heap.size := ⟨BG.lt, hs0⟩
      have q0 : ∀ p : Kept (fun k => k = w.heap.size) w4.drew, p.v.cell? ⟨w.heap.size, 0, none⟩ = some (.int .i64 e0.m.tab) := fun p => p.h.cell (rfl) (BK.drew.cell 0)
      have q1 : ∀ p : Kept (fun k => k = w.heap.size) w4.drew, p.v.cell? ⟨w.heap.size, 1, none⟩ = some (.int .i64 e0.m.kind) := fun p => p.h.cell (rfl) (BK.drew.cell 1)
      have q2 : ∀ p : Kept (fun k => k = w.heap.size) w4.drew, p.v.cell? ⟨w.heap.size, 2, none⟩ = some (.string e0.m.key) := fun p => p.h.cell (rfl) (BK.drew.cell 2)
      have q3 : ∀ p : Kept (fun k => k = w.heap.size) w4.drew, p.v.cell? ⟨w.heap.size, 3, none⟩ = some (.string e0.m.en) := fun p => p.h.cell (rfl) (BK.drew.cell 3)
      have q4 : ∀ p : Kept (fun k => k = w.heap.size) w4.drew, p.v.cell? ⟨w.heap.size, 4, none⟩ = some (.string e0.m.val) := fun p => p.h.cell (rfl) (BK.drew.cell 4)
      have q5 : ∀ p : Kept (fun k => k = w.heap.size) w4.drew, p.v.cell? ⟨w.heap.size, 5, none⟩ = some (.int .i64 e0.m.exp) := fun p => p.h.cell (rfl) (BK.drew.cell 5)
      have q6 : ∀ p : Kept (fun k => k = w.heap.size) w4.drew, p.v.cell? ⟨w.heap.size, 6, none⟩ = some (.int .i64 e0.m.at_.1) := fun p => p.h.cell (rfl) (BK.drew.cell 6)
      have q7 : ∀ p : Kept (fun k => k = w.heap.size) w4.drew, p.v.cell? ⟨w.heap.size, 7, none⟩ = some (.int .i64 e0.m.at_.2.1) := fun p => p.h.cell (rfl) (BK.drew.cell 7)
      have q8 : ∀ p : Kept (fun k => k = w.heap.size) w4.drew, p.v.cell? ⟨w.heap.size, 8, none⟩ = some (.int .i64 e0.m.at_.2.2) := fun p => p.h.cell (rfl) (BK.drew.cell 8)
      have q9 : ∀ p : Kept (fun k => k = w.heap.size) w4.drew, p.v.cell? ⟨w.heap.size, 9, none⟩ = some (.slice e0.A e0.n e0.c) := fun p => p.h.cell (rfl) (BK.drew.cell 9)
      have t11 : w4.drew.cell? ⟨g, 11, none⟩ = some (.pointer tl.adr) := BG.drew.cell 11
      have a4 := Lib.hid a1.drew
      have CI := Lib.hid (IHl w4.drew (e1.below (below_drewN (Below.refl w4.heap.size w4) 1)) a4.out.lies.2.2.2.1 HND.out.2.2.1 HW.out.1 (Nat.le_trans hlo a4.out.tr.size))
      unfold mutC at CI
      refine wp_region_mixL (fun k => k = w.heap.size) [2, 4, 11] [0, 1, 5, 6, 2, 3, 4, 7, 8, 9, 10, 11, 12, 13, 14] (by kernel_rfl) (by kernel_rfl) ?_
      iterate 4 (refine mix_calmL rfl rfl ?_; go_big_quiet_step (fail); refine wpQuiet_nil ?_)
      refine mix_loudL rfl (by kernel_rfl) ?_
      intro K1 hK1
      have HK := Lib.hid hK1
      clear hK1 
      go_wp2_with fail
      refine HK.out _ _ (Stand.refl _ _) ?_
      clear HK
      iterate 1 (refine mix_calmL rfl rfl ?_; go_big_quiet_step (fail); refine wpQuiet_nil ?_)
      refine mix_loudL rfl (by kernel_rfl) ?_
      intro K1 hK1
      have HK := Lib.hid hK1
      clear hK1 
      go_wp2_with fail
      refine HK.out _ _ (Stand.refl _ _) ?_
      clear HK
      refine mix_loudL rfl (by kernel_rfl) ?_
      intro K1 hK1
      have HK := Lib.hid hK1
      clear hK1 q0 q1 q2 q3 q4 q5 q6 q7 q8 q9 t11
      go_wp2_with fail
      refine (CI.out).mono ?_
      rintro x w5 ⟨y, rfl, a5, hy, hnode⟩
      have HS9 : Hid (Stand (fun k => k = g ∨ k = w.heap.size) w4.drew w5) := Lib.hid ⟨a5.tr.os, a5.tr.tape, a5.tr.output, a5.tr.size, fun k hk hs => a5.tr.block k hk (by
        rcases hs with rfl | rfl
        · exact HND.out.1
        · intro h9
          exact absurd (HLl.out _ h9) (Nat.lt_irrefl _))⟩
      obtain ⟨gl, ll, el, wl, lr, rfl⟩ := hnode
      have BG5 : Blk w5 g 114 (nodeC x wx (.pointer tl.adr) (.pointer tr.adr)) := HS9.out.blk (.inl rfl) BG.drew
      have fg := BG5.frozen
      have c11 : w5.cell? ⟨g, 11, none⟩ = some (.pointer tl.adr) := BG5.cell 11
      have A6 := anew_left (l := tl) (r := tr) a4.out.lies HN.out a5
      simp only [TT.ptr, adr_node] at A6
      have A7 := Lib.hid (a4.out.then_ A6)
      have HF : Hid (insM e0.m (TT.node g tl x wx tr).list = ((TT.node g (TT.node gl ll el wl lr) x wx tr).list, (insM e0.m tl.list).2)) := Lib.hid (by
        show insM e0.m (tl.list ++ x.m :: tr.list) = _
        rw [insM_left e0.m x.m tr.list (by rw [HR.out]; exact hR0.out) tl.list]
        show ((insM e0.m tl.list).1 ++ x.m :: tr.list, _) = _
        rw [← hy]
        simp [TT.list])
      have HF2 : Hid (insM e0.m (TT.node g tl x wx tr).list = ((TT.node gl ll el wl (TT.node g lr x wx tr)).list, (insM e0.m tl.list).2)) := Lib.hid (by
        rw [HF.out]
        simp [TT.list])
      simp only [adr_node]
      clear CI a5 hy A6 a4 BG5 BG BK hgb a1 e1 IHl IHr HLl HLr HND HW HN
      go_wp2_with fail
      refine HK.out _ _ ((HS9.out.mono (fun k hk => .inr hk))) ?_
      clear HK
      clear HS9
      iterate 3 (refine mix_calmL rfl rfl ?_; go_big_quiet_step (fail); refine wpQuiet_nil ?_)
      refine mix_loudL rfl (by kernel_rfl) ?_
      intro K1 hK1
      have HK := Lib.hid hK1
      clear hK1 
      go_wp2_with fail
      refine HK.out _ _ (Stand.refl _ _) ?_
      clear HK
      iterate 1 (refine mix_calmL rfl rfl ?_; go_big_quiet_step (fail); refine wpQuiet_nil ?_)
      refine mix_loudL rfl (by kernel_rfl) ?_
      intro K1 hK1
      have HK := Lib.hid hK1
      clear hK1 
      go_wp2_with fail
      refine HK.out _ _ (Stand.of_grown (only_set w5 g 11 _) (fun k hk hs => by injection hk with hk; omega)) ?_
      clear HK
      iterate 1 (refine mix_calmL rfl rfl ?_; go_big_quiet_step (fail); refine wpQuiet_nil ?_)
      refine mix_endL ?_
      clear fg c11
      generalize w5.setCell ⟨g, 11, none⟩ (.pointer (some ⟨gl, 0, none⟩)) = W6 at *
      have hl6 := A7.out.lies
      obtain ⟨_, bg, _, ⟨_, bl, _, _, _⟩, _⟩ := hl6
      have c11 : W6.cell? ⟨g, 11, none⟩ = some (.pointer (some ⟨gl, 0, none⟩)) := bg.cell 11
      have c10 : W6.cell? ⟨g, 10, none⟩ = some (.int .u32 wx) := bg.cell 10
      have k10 : W6.cell? ⟨gl, 10, none⟩ = some (.int .u32 wl) := bl.cell 10
      by_cases hwt : wx < wl
      · have dw : decide (wx < wl) = true := by simp [hwt]
        clear hwt
        go_upto_region 14 with fail
        go_region
        have A8 := Lib.hid A7.out.drew
        have A9 := turn_left A8.out.lies A8.out.nd
        have AX := Lib.hid (A8.out.then_ A9)
        clear A9
        have fg := bg.drew.frozen
        have fl := bl.drew.frozen
        have c11' : W6.drew.cell? ⟨g, 11, none⟩ = some (.pointer (some ⟨gl, 0, none⟩)) := bg.drew.cell 11
        have k12 : W6.drew.cell? ⟨gl, 12, none⟩ = some (.pointer lr.adr) := bl.drew.cell 12
        clear c11 c10 k10 A7 A8 bg bl
        generalize W6.drew = W7 at *
        go_wp2_with fail
        go_returns
        exact ⟨_, by rw [HF2.out]; rfl, AX.out, by rw [HF2.out], _, _, _, _, _, rfl⟩
      · have dw : decide (wx < wl) = false := by simp [hwt]
        clear hwt
        go_upto_region 14 with fail
        go_region
        have A8 := Lib.hid A7.out.drew
        clear c11 c10 k10 A7 bg bl
        go_wp2_with fail
        go_returns
        exact ⟨_, by rw [HF.out]; rfl, A8.out, by rw [HF.out], _, _, _, _, _, rfl⟩
    · subst heq
      have hi := ins_zero e0.m tl tr x HR.out (HW.out.2.2 (by rw [HR.out]; exact Int.le_refl _))
      have HI := Lib.hid hi
      clear hi
      go_wp2_with fail
      go_returns
      refine ⟨TT.node g tl x wx tr, ?_, a1, ?_, _, _, _, _, _, rfl⟩
      · show Ending.returned (.tuple #[.pointer (some ⟨g, 0, none⟩), .bool false]) = .returned (.tuple #[Value.pointer (TT.adr (.node g tl x wx tr)), .bool (insM e0.m (tl.list ++ x.m :: tr.list)).2])
        rw [HI.out]
        rfl
      · show tl.list ++ x.m :: tr.list = (insM e0.m (tl.list ++ x.m :: tr.list)).1
        rw [HI.out]
    · have d1 : (R == 0) = false := by simp; omega
      have d2 : decide (R < 0) = false := by simp; omega
      have hR0 := Lib.hid hgt
      clear hgt
      go_upto_region 5 with fail
      have BG : Blk w4 g 114 (nodeC x wx (.pointer tl.adr) (.pointer tr.adr)) := a1.lies.2.1
      have hgb : g < w4.heap.size ∧ w.heap.size < w4.heap.size := ⟨BG.lt, hs0⟩
      have q0 : ∀ p : Kept (fun k => k = w.heap.size) w4.drew, p.v.cell? ⟨w.heap.size, 0, none⟩ = some (.int .i64 e0.m.tab) := fun p => p.h.cell (rfl) (BK.drew.cell 0)
      have q1 : ∀ p : Kept (fun k => k = w.heap.size) w4.drew, p.v.cell? ⟨w.heap.size, 1, none⟩ = some (.int .i64 e0.m.kind) := fun p => p.h.cell (rfl) (BK.drew.cell 1)
      have q2 : ∀ p : Kept (fun k => k = w.heap.size) w4.drew, p.v.cell? ⟨w.heap.size, 2, none⟩ = some (.string e0.m.key) := fun p => p.h.cell (rfl) (BK.drew.cell 2)
      have q3 : ∀ p : Kept (fun k => k = w.heap.size) w4.drew, p.v.cell? ⟨w.heap.size, 3, none⟩ = some (.string e0.m.en) := fun p => p.h.cell (rfl) (BK.drew.cell 3)
      have q4 : ∀ p : Kept (fun k => k = w.heap.size) w4.drew, p.v.cell? ⟨w.heap.size, 4, none⟩ = some (.string e0.m.val) := fun p => p.h.cell (rfl) (BK.drew.cell 4)
      have q5 : ∀ p : Kept (fun k => k = w.heap.size) w4.drew, p.v.cell? ⟨w.heap.size, 5, none⟩ = some (.int .i64 e0.m.exp) := fun p => p.h.cell (rfl) (BK.drew.cell 5)
      have q6 : ∀ p : Kept (fun k => k = w.heap.size) w4.drew, p.v.cell? ⟨w.heap.size, 6, none⟩ = some (.int .i64 e0.m.at_.1) := fun p => p.h.cell (rfl) (BK.drew.cell 6)
      have q7 : ∀ p : Kept (fun k => k = w.heap.size) w4.drew, p.v.cell? ⟨w.heap.size, 7, none⟩ = some (.int .i64 e0.m.at_.2.1) := fun p => p.h.cell (rfl) (BK.drew.cell 7)
      have q8 : ∀ p : Kept (fun k => k = w.heap.size) w4.drew, p.v.cell? ⟨w.heap.size, 8, none⟩ = some (.int .i64 e0.m.at_.2.2) := fun p => p.h.cell (rfl) (BK.drew.cell 8)
      have q9 : ∀ p : Kept (fun k => k = w.heap.size) w4.drew, p.v.cell? ⟨w.heap.size, 9, none⟩ = some (.slice e0.A e0.n e0.c) := fun p => p.h.cell (rfl) (BK.drew.cell 9)
      have t11 : w4.drew.cell? ⟨g, 12, none⟩ = some (.pointer tr.adr) := BG.drew.cell 12
      have a4 := Lib.hid a1.drew
      have CI := Lib.hid (IHr w4.drew (e1.below (below_drewN (Below.refl w4.heap.size w4) 1)) a4.out.lies.2.2.2.2 HND.out.2.2.2 HW.out.2.1 (Nat.le_trans hlo a4.out.tr.size))
      unfold mutC at CI
      refine wp_region_mixL (fun k => k = w.heap.size) [2, 4, 11] [0, 1, 5, 6, 2, 3, 4, 7, 8, 9, 10, 11, 12, 13, 14] (by kernel_rfl) (by kernel_rfl) ?_
      iterate 4 (refine mix_calmL rfl rfl ?_; go_big_quiet_step (fail); refine wpQuiet_nil ?_)
      refine mix_loudL rfl (by kernel_rfl) ?_
      intro K1 hK1
      have HK := Lib.hid hK1
      clear hK1 
      go_wp2_with fail
      refine HK.out _ _ (Stand.refl _ _) ?_
      clear HK
      iterate 1 (refine mix_calmL rfl rfl ?_; go_big_quiet_step (fail); refine wpQuiet_nil ?_)
      refine mix_loudL rfl (by kernel_rfl) ?_
      intro K1 hK1
      have HK := Lib.hid hK1
      clear hK1 
      go_wp2_with fail
      refine HK.out _ _ (Stand.refl _ _) ?_
      clear HK
      refine mix_loudL rfl (by kernel_rfl) ?_
      intro K1 hK1
      have HK := Lib.hid hK1
      clear hK1 q0 q1 q2 q3 q4 q5 q6 q7 q8 q9 t11
      go_wp2_with fail
      refine (CI.out).mono ?_
      rintro x w5 ⟨y, rfl, a5, hy, hnode⟩
      have HS9 : Hid (Stand (fun k => k = g ∨ k = w.heap.size) w4.drew w5) := Lib.hid ⟨a5.tr.os, a5.tr.tape, a5.tr.output, a5.tr.size, fun k hk hs => a5.tr.block k hk (by
        rcases hs with rfl | rfl
        · exact HND.out.2.1
        · intro h9
          exact absurd (HLr.out _ h9) (Nat.lt_irrefl _))⟩
      obtain ⟨gl, ll, el, wl, lr, rfl⟩ := hnode
      have BG5 : Blk w5 g 114 (nodeC x wx (.pointer tl.adr) (.pointer tr.adr)) := HS9.out.blk (.inl rfl) BG.drew
      have fg := BG5.frozen
      have c11 : w5.cell? ⟨g, 12, none⟩ = some (.pointer tr.adr) := BG5.cell 12
      have A6 := anew_right (l := tl) (r := tr) a4.out.lies HN.out a5
      simp only [TT.ptr, adr_node] at A6
      have A7 := Lib.hid (a4.out.then_ A6)
      have HF : Hid (insM e0.m (TT.node g tl x wx tr).list = ((TT.node g tl x wx (TT.node gl ll el wl lr)).list, (insM e0.m tr.list).2)) := Lib.hid (by
        show insM e0.m (tl.list ++ x.m :: tr.list) = _
        rw [ins_right e0.m tl tr x (by rw [HR.out]; exact hR0.out) (HW.out.2.2 (by rw [HR.out]; exact Int.le_of_lt hR0.out))]
        show (tl.list ++ x.m :: (insM e0.m tr.list).1, _) = _
        rw [← hy]
        simp [TT.list])
      have HF2 : Hid (insM e0.m (TT.node g tl x wx tr).list = ((TT.node gl (TT.node g tl x wx ll) el wl lr).list, (insM e0.m tr.list).2)) := Lib.hid (by
        rw [HF.out]
        simp [TT.list])
      simp only [adr_node]
      clear CI a5 hy A6 a4 BG5 BG BK hgb a1 e1 IHl IHr HLl HLr HND HW HN
      go_wp2_with fail
      refine HK.out _ _ ((HS9.out.mono (fun k hk => .inr hk))) ?_
      clear HK
      clear HS9
      iterate 3 (refine mix_calmL rfl rfl ?_; go_big_quiet_step (fail); refine wpQuiet_nil ?_)
      refine mix_loudL rfl (by kernel_rfl) ?_
      intro K1 hK1
      have HK := Lib.hid hK1
      clear hK1 
      go_wp2_with fail
      refine HK.out _ _ (Stand.refl _ _) ?_
      clear HK
      iterate 1 (refine mix_calmL rfl rfl ?_; go_big_quiet_step (fail); refine wpQuiet_nil ?_)
      refine mix_loudL rfl (by kernel_rfl) ?_
      intro K1 hK1
      have HK := Lib.hid hK1
      clear hK1 
      go_wp2_with fail
      refine HK.out _ _ (Stand.of_grown (only_set w5 g 12 _) (fun k hk hs => by injection hk with hk; omega)) ?_
      clear HK
      iterate 1 (refine mix_calmL rfl rfl ?_; go_big_quiet_step (fail); refine wpQuiet_nil ?_)
      refine mix_endL ?_
      clear fg c11
      generalize w5.setCell ⟨g, 12, none⟩ (.pointer (some ⟨gl, 0, none⟩)) = W6 at *
      have hl6 := A7.out.lies
      obtain ⟨_, bg, _, _, ⟨_, bl, _, _, _⟩⟩ := hl6
      have c11 : W6.cell? ⟨g, 12, none⟩ = some (.pointer (some ⟨gl, 0, none⟩)) := bg.cell 12
      have c10 : W6.cell? ⟨g, 10, none⟩ = some (.int .u32 wx) := bg.cell 10
      have k10 : W6.cell? ⟨gl, 10, none⟩ = some (.int .u32 wl) := bl.cell 10
      by_cases hwt : wx < wl
      · have dw : decide (wx < wl) = true := by simp [hwt]
        clear hwt
        go_upto_region 6 with fail
        go_region
        have A8 := Lib.hid A7.out.drew
        have A9 := turn_right A8.out.lies A8.out.nd
        have AX := Lib.hid (A8.out.then_ A9)
        clear A9
        have fg := bg.drew.frozen
        have fl := bl.drew.frozen
        have c11' : W6.drew.cell? ⟨g, 12, none⟩ = some (.pointer (some ⟨gl, 0, none⟩)) := bg.drew.cell 12
        have k12 : W6.drew.cell? ⟨gl, 11, none⟩ = some (.pointer ll.adr) := bl.drew.cell 11
        clear c11 c10 k10 A7 A8 bg bl
        generalize W6.drew = W7 at *
        go_wp2_with fail
        go_returns
        exact ⟨_, by rw [HF2.out]; rfl, AX.out, by rw [HF2.out], _, _, _, _, _, rfl⟩
      · have dw : decide (wx < wl) = false := by simp [hwt]
        clear hwt
        go_upto_region 6 with fail
        go_region
        have A8 := Lib.hid A7.out.drew
        clear c11 c10 k10 A7 bg bl
        go_wp2_with fail
        go_returns
        exact ⟨_, by rw [HF.out]; rfl, A8.out, by rw [HF.out], _, _, _, _, _, rfl⟩
end Go.Proofs.YthbhbechemnidaaDoor

namespace Go.Proofs.YthbhbechemnidaaDoor
open Go.RowKit Go.Sort

set_option maxRecDepth 100000 in
set_option maxHeartbeats 2000000 in
theorem mem_weigh (m : Mut) (A : Option Addr) (n c : Nat) (w : World) (hr : Reads w w.heap.size 3 A n (m.ov.flatMap sc)) (hi : MutI m) :
    Calls Tryd.prog 62 #[.agg (mutC m (.slice A n c))] w fun e w' => (∃ u : Int, e = .returned (.int .u32 u)) ∧ Below w.heap.size w w' := by
  have BK := Blk.new w 35 (mutC m (.slice A n c))
  have hB : Below w.heap.size w (w.alloc (.cells (mutC m (.slice A n c)) 35)) := (Below.refl _ _).alloc (Nat.le_refl _) _
  have HR := Lib.hid hr
  have HI := Lib.hid hi
  have hml := mput_len m hi
  clear hr hi
  go_enter Tryd.func62, Tryd.ntmps62
  go_upto_region 2 with fail
  generalize w.alloc (.cells (mutC m (.slice A n c)) 35) = W at *
  have q0 : W.cell? ⟨w.heap.size, 0, none⟩ = some (.int .i64 m.tab) := BK.cell 0
  have q1 : W.cell? ⟨w.heap.size, 1, none⟩ = some (.int .i64 m.kind) := BK.cell 1
  have q2 : W.cell? ⟨w.heap.size, 2, none⟩ = some (.string m.key) := BK.cell 2
  have q3 : W.cell? ⟨w.heap.size, 3, none⟩ = some (.string m.en) := BK.cell 3
  have q4 : W.cell? ⟨w.heap.size, 4, none⟩ = some (.string m.val) := BK.cell 4
  have q5 : W.cell? ⟨w.heap.size, 5, none⟩ = some (.int .i64 m.exp) := BK.cell 5
  have q6 : W.cell? ⟨w.heap.size, 6, none⟩ = some (.int .i64 m.at_.1) := BK.cell 6
  have q7 : W.cell? ⟨w.heap.size, 7, none⟩ = some (.int .i64 m.at_.2.1) := BK.cell 7
  have q8 : W.cell? ⟨w.heap.size, 8, none⟩ = some (.int .i64 m.at_.2.2) := BK.cell 8
  have q9 : W.cell? ⟨w.heap.size, 9, none⟩ = some (.slice A n c) := BK.cell 9
  go_wp2_with fail
  refine (mut_Put W W.heap.size (.slice none 0 0) [] m A n c (Own.nil_ _ _) (Nat.le_refl _) ((HR.out.below hB).more hB.size) HI.out (by simp)).mono ?_
  rintro y w1 ⟨v1, rfl, O1, G1, -⟩
  rw [List.nil_append] at O1
  replace hB := hB.trans ((below_of_grown (v := .slice none 0 0) (Below.refl _ _) (Nat.le_refl _) G1 (fun q hq => by cases hq)).mono hB.size)
  obtain ⟨A1, c1, rfl, _, R1⟩ := O1.reads
  obtain ⟨n1, hn1⟩ : ∃ n1, (mput m).length = n1 := ⟨_, rfl⟩
  have HN := Lib.hid hn1
  rw [hn1] at R1 hml ⊢
  have HR1 := Lib.hid R1
  clear O1 G1 R1 hn1 q0 q1 q2 q3 q4 q5 q6 q7 q8 q9 BK
  go_wp2_with fail
  go_loopw [3, 5, 9] (fun v3 _ v9 wr => ∃ (k : Nat) (u : Int), v9 = .int .i64 k ∧ v3 = .int .u32 u ∧ k ≤ n1 ∧ w1 = wr) (fun _ _ v9 _ => n1 - (RowKit.intOf v9).toNat)
  case atStart => exact ⟨0, _, rfl, rfl, Nat.zero_le _, rfl⟩
  case round =>
    obtain ⟨k, u, rfl, rfl, hk, rfl⟩ := hrel
    by_cases hkn : k < n1
    · obtain ⟨b, off, rfl, _, hc⟩ := Reads.form HR1.out (by omega)
      have hkl : k < (mput m).length := by rw [HN.out]; exact hkn
      have q := hc k (vb (mput m)[k]) (by simp [hkl])
      unfold vb at q
      clear hc
      go_wp2_with fail
      go_roundw
      case rel => exact ⟨k + 1, _, by go_num, rfl, by omega, by first | rfl | trivial⟩
      case measure => simp [RowKit.intOf]; omega
    · go_wp2_with fail
      go_ret
      first
        | exact ⟨⟨_, rfl⟩, hB⟩
        | exact ⟨⟨_, rfl, trivial⟩, hB⟩
end Go.Proofs.YthbhbechemnidaaDoor

namespace Go.Proofs.YthbhbechemnidaaDoor
open Go.RowKit Go.Sort

/-- A tree's record: its root, and how many mutations it has. -/
structure TreeOk (w : World) (lo h : Nat) (t : TT) (k : Nat) : Prop where
  blk : Blk w h 27 #[.pointer t.adr, .int .i64 k]
  lies : t.Lies w lo
  nd : t.gs.Nodup
  few : k ≤ 1000000
theorem TreeOk.out {w : World} {lo h k : Nat} {t : TT} (o : TreeOk w lo h t k) : h ∉ t.gs := fun hq => by
  obtain ⟨_, cs, hb⟩ := o.lies.mem h hq
  have h1 : w.heap[h]? = some (.cells cs 114) := hb
  have h2 : w.heap[h]? = some (.cells #[.pointer t.adr, .int .i64 k] 27) := o.blk
  rw [h1] at h2
  injection h2 with h2
  injection h2 with _ h2 _
  exact absurd h2 (by decide)
theorem TreeOk.below {w w' : World} {lo h k : Nat} {t : TT} (o : TreeOk w lo h t k) (b : Below w.heap.size w w') : TreeOk w' lo h t k :=
  ⟨o.blk.below b o.blk.lt, (Anew.below (Anew.refl o.lies o.nd) b).lies, o.nd, o.few⟩
/-- What Put hands back. -/
def TPut (w : World) (lo h : Nat) (t : TT) (k : Nat) (m : Mut) (e : Ending) (w' : World) : Prop :=
  ∃ t', e = .returned (.bool (insM m t.list).2) ∧ TreeOk w' lo h t' (if (insM m t.list).2 = true then k + 1 else k) ∧ t'.list = (insM m t.list).1 ∧ Turned (h :: t.gs) w w'

set_option maxRecDepth 100000 in
set_option maxHeartbeats 4000000 in
theorem tree_Put (m : Mut) (A : Option Addr) (n c : Nat) (lo h k : Nat) (t : TT) (w : World) (ht : TreeOk w lo h t k) (hr : Reads w w.heap.size 3 A n (m.ov.flatMap sc)) (hA : A = none → c = 0) (hi : MutI m) (hw : WayM m t) (hlo : lo ≤ w.heap.size) (hk : k < 1000000) :
    Calls Tryd.prog 15 #[.pointer (some ⟨h, 0, none⟩), .agg (mutC m (.slice A n c))] w (TPut w lo h t k m) := by
  have hn : n ≤ 1000000 := by rw [← stamps_n hr]; exact hi.len
  have BK := Blk.new w 35 (mutC m (.slice A n c))
  have b1 : Below w.heap.size w (w.alloc (.cells (mutC m (.slice A n c)) 35)) := (Below.refl _ _).alloc (Nat.le_refl _) _
  have T1 := ht.below b1
  have HR := Lib.hid hr
  have HA := Lib.hid hA
  have HI := Lib.hid hi
  have HW := Lib.hid hw
  have HHT := Lib.hid ht.out
  have hhl := ht.blk.lt
  have HGL := Lib.hid ht.lies.lt
  have hs1 := b1.size
  clear hr hA hi hw ht
  go_enter Tryd.func15, Tryd.ntmps15
  go_upto_region 1 with fail
  generalize w.alloc (.cells (mutC m (.slice A n c)) 35) = W at *
  have q0 : ∀ p : Kept (fun q => q = w.heap.size ∨ q = h) W.drew, p.v.cell? ⟨w.heap.size, 0, none⟩ = some (.int .i64 m.tab) := fun p => p.h.cell (.inl rfl) (BK.drew.cell 0)
  have q1 : ∀ p : Kept (fun q => q = w.heap.size ∨ q = h) W.drew, p.v.cell? ⟨w.heap.size, 1, none⟩ = some (.int .i64 m.kind) := fun p => p.h.cell (.inl rfl) (BK.drew.cell 1)
  have q2 : ∀ p : Kept (fun q => q = w.heap.size ∨ q = h) W.drew, p.v.cell? ⟨w.heap.size, 2, none⟩ = some (.string m.key) := fun p => p.h.cell (.inl rfl) (BK.drew.cell 2)
  have q3 : ∀ p : Kept (fun q => q = w.heap.size ∨ q = h) W.drew, p.v.cell? ⟨w.heap.size, 3, none⟩ = some (.string m.en) := fun p => p.h.cell (.inl rfl) (BK.drew.cell 3)
  have q4 : ∀ p : Kept (fun q => q = w.heap.size ∨ q = h) W.drew, p.v.cell? ⟨w.heap.size, 4, none⟩ = some (.string m.val) := fun p => p.h.cell (.inl rfl) (BK.drew.cell 4)
  have q5 : ∀ p : Kept (fun q => q = w.heap.size ∨ q = h) W.drew, p.v.cell? ⟨w.heap.size, 5, none⟩ = some (.int .i64 m.exp) := fun p => p.h.cell (.inl rfl) (BK.drew.cell 5)
  have q6 : ∀ p : Kept (fun q => q = w.heap.size ∨ q = h) W.drew, p.v.cell? ⟨w.heap.size, 6, none⟩ = some (.int .i64 m.at_.1) := fun p => p.h.cell (.inl rfl) (BK.drew.cell 6)
  have q7 : ∀ p : Kept (fun q => q = w.heap.size ∨ q = h) W.drew, p.v.cell? ⟨w.heap.size, 7, none⟩ = some (.int .i64 m.at_.2.1) := fun p => p.h.cell (.inl rfl) (BK.drew.cell 7)
  have q8 : ∀ p : Kept (fun q => q = w.heap.size ∨ q = h) W.drew, p.v.cell? ⟨w.heap.size, 8, none⟩ = some (.int .i64 m.at_.2.2) := fun p => p.h.cell (.inl rfl) (BK.drew.cell 8)
  have q9 : ∀ p : Kept (fun q => q = w.heap.size ∨ q = h) W.drew, p.v.cell? ⟨w.heap.size, 9, none⟩ = some (.slice A n c) := fun p => p.h.cell (.inl rfl) (BK.drew.cell 9)
  have h0 : ∀ p : Kept (fun q => q = w.heap.size ∨ q = h) W.drew, p.v.cell? ⟨h, 0, none⟩ = some (.pointer t.adr) := fun p => p.h.cell (.inr rfl) (T1.blk.drew.cell 0)
  have bd : Below W.heap.size W W.drew := below_drewN (Below.refl W.heap.size W) 1
  have CC := Lib.hid (mut_Copy m A n c W.drew (((HR.out.below b1).more b1.size).drewN 1) HA.out (by omega))
  unfold mutC at CC
  have HB := Lib.hid (b1.trans (bd.mono b1.size))
  replace T1 := T1.below bd
  clear b1 bd
  refine wp_region_mixL (fun q => q = w.heap.size ∨ q = h) [] [0, 4, 6, 1, 2, 3, 5, 7, 8, 9, 10, 11, 12, 13] (by kernel_rfl) (by kernel_rfl) ?_
  iterate 6 (refine mix_calmL rfl rfl ?_; go_big_quiet_step (fail); refine wpQuiet_nil ?_)
  refine mix_loudL rfl (by kernel_rfl) ?_
  intro K1 hK1
  have HK := Lib.hid hK1
  clear hK1 q0 q1 q2 q3 q4 q5 q6 q7 q8 q9 h0
  go_wp2_with fail
  refine (CC.out).mono ?_
  rintro x w3 ⟨v3, rfl, O3, b3⟩
  have HS9 := Lib.hid (Stand.of_below (S := fun q => q = w.heap.size ∨ q = h) b3)
  replace T1 := T1.below b3
  have hs3 := b3.size
  replace HB := Lib.hid (HB.out.trans (b3.mono HB.out.size))
  obtain ⟨A9, c9, rfl, -, hA9, -⟩ := own_form O3
  have HO := Lib.hid O3
  have HA9 := Lib.hid hA9
  clear b3 O3 hA9 CC
  go_wp2_with fail
  refine HK.out _ _ (HS9.out) ?_
  clear HK
  clear HS9
  have CW := Lib.hid (mem_weigh m A n c w3 ((HR.out.below HB.out).more HB.out.size) HI.out)
  unfold mutC at CW
  refine mix_loudL rfl (by kernel_rfl) ?_
  intro K1 hK1
  have HK := Lib.hid hK1
  clear hK1 
  go_wp2_with fail
  refine (CW.out).mono ?_
  rintro x w4 ⟨⟨u, rfl⟩, b4⟩
  have HS9 := Lib.hid (Stand.of_below (S := fun q => q = w.heap.size ∨ q = h) b4)
  replace T1 := T1.below b4
  have hs4 := b4.size
  replace HB := Lib.hid (HB.out.trans (b4.mono HB.out.size))
  have HE : Hid (OwnE w4 lo ⟨m, A9, m.ov.length, c9⟩) := Lib.hid (OwnE.below ⟨own_base HO.out (Nat.le_trans hlo (Nat.le_trans hs1 (Nat.le_refl _))), rfl, by have := HI.out.len; show m.ov.length ≤ 1000000000; omega, HA9.out⟩ b4)
  clear b4 CW HO HA9
  go_wp2_with fail
  refine HK.out _ _ (HS9.out) ?_
  clear HK
  clear HS9
  obtain ⟨ok, hok⟩ : ∃ ok, (insM m t.list).2 = ok := ⟨_, rfl⟩
  have HOK := Lib.hid hok
  clear hok
  have CP := Lib.hid (mem_put ⟨m, A9, m.ov.length, c9⟩ u lo t w4 HE.out T1.lies T1.nd HW.out (Nat.le_trans hlo HB.out.size))
  unfold mutC at CP
  unfold mutC
  refine mix_loudL rfl (by kernel_rfl) ?_
  intro K1 hK1
  have HK := Lib.hid hK1
  clear hK1 
  go_wp2_with fail
  refine (CP.out).mono ?_
  rintro x w5 ⟨t', hx9, a5, hl5, -⟩
  have hx8 : x = .returned (.tuple #[.pointer t'.adr, .bool ok]) := by rw [hx9]; rw [← HOK.out]
  subst hx8
  clear hx9
  have HS9 : Hid (Stand (fun q => q = w.heap.size ∨ q = h) w4 w5) := Lib.hid ⟨a5.tr.os, a5.tr.tape, a5.tr.output, a5.tr.size, fun q hq hs => a5.tr.block q hq (by
    rcases hs with rfl | rfl
    · intro h9
      exact absurd (HGL.out _ h9) (Nat.lt_irrefl _)
    · exact HHT.out)⟩
  have BH := HS9.out.blk (.inr rfl) T1.blk
  have HL5 := Lib.hid hl5
  have A5 := Lib.hid a5
  have HTR : Hid (Turned t.gs w w5) := Lib.hid ((⟨HB.out.os, HB.out.tape, HB.out.output, HB.out.size, fun q hq _ => HB.out.block q hq⟩ : Turned t.gs w w4).trans a5.tr)
  clear CP a5 hl5 T1 HE
  go_wp2_with fail
  refine HK.out _ _ (HS9.out) ?_
  clear HK
  clear HS9
  iterate 5 (refine mix_calmL rfl rfl ?_; go_big_quiet_step (fail); refine wpQuiet_nil ?_)
  refine mix_endL ?_
  have fh := BH.frozen
  have c0 : w5.cell? ⟨h, 0, none⟩ = some (.pointer t.adr) := BH.cell 0
  have c1 : w5.cell? ⟨h, 1, none⟩ = some (.int .i64 k) := BH.cell 1
  have h5 : h ∉ t'.gs := fun hq => by
    obtain ⟨_, cs, hb⟩ := A5.out.lies.mem h hq
    have h1 : w5.heap[h]? = some (.cells cs 114) := hb
    have h2 : w5.heap[h]? = some (.cells #[.pointer t.adr, .int .i64 k] 27) := BH
    rw [h1] at h2
    injection h2 with h2
    injection h2 with _ h2 _
    exact absurd h2 (by decide)
  have H5 := Lib.hid h5
  have HBH := Lib.hid BH
  have hL : ∀ w6, Turned [h] w5 w6 → t'.Lies w6 lo := fun w6 T => A5.out.lies.keep (T.keepR HBH.out) fun q hq => T.block q (A5.out.lies.lt q hq) (fun hq2 => H5.out (by rw [← List.mem_singleton.1 hq2]; exact hq))
  have HLI := Lib.hid hL
  have TS : ∀ (w6 : World) (i : Nat) (x : Value), Turned [h] w6 (w6.setCell ⟨h, i, none⟩ x) := fun w6 i x => Turned.set (List.mem_cons_self ..) i x
  have HTS := Lib.hid TS
  clear h5 hL TS
  cases ok with
  | false =>
    go_wp2_with fail
    go_ret
    refine ⟨t', by rw [HOK.out]; rfl, ⟨?_, ?_, A5.out.nd, ?_⟩, HL5.out, ?_⟩
    · rw [HOK.out]
      exact HBH.out.set_ 0 _
    · exact HLI.out _ (HTS.out _ _ _)
    · rw [HOK.out]
      show k ≤ 1000000
      omega
    · exact (HTR.out.mono (fun q hq => List.mem_cons_of_mem _ hq)).trans ((HTS.out _ _ _).mono (fun q hq => by rw [List.mem_singleton.1 hq]; exact List.mem_cons_self ..))
  | true =>
    go_wp2_with fail
    go_ret
    refine ⟨t', by rw [HOK.out]; rfl, ⟨?_, ?_, A5.out.nd, ?_⟩, HL5.out, ?_⟩
    · rw [HOK.out]
      have := (HBH.out.set_ 0 (.pointer t'.adr)).set_ 1 (.int .i64 ((k + 1 : Nat) : Int))
      simpa using this
    · exact HLI.out _ ((HTS.out _ _ _).trans (HTS.out _ _ _))
    · rw [HOK.out]
      show k + 1 ≤ 1000000
      omega
    · exact (HTR.out.mono (fun q hq => List.mem_cons_of_mem _ hq)).trans (((HTS.out _ _ _).trans (HTS.out _ _ _)).mono (fun q hq => by rw [List.mem_singleton.1 hq]; exact List.mem_cons_self ..))

set_option maxRecDepth 100000 in
theorem tree_Len (lo h k : Nat) (t : TT) (w : World) (ht : TreeOk w lo h t k) :
    Calls Tryd.prog 16 #[.pointer (some ⟨h, 0, none⟩)] w fun e w' => e = .returned (.int .i64 k) ∧ w = w' := by
  have c1 : w.cell? ⟨h, 1, none⟩ = some (.int .i64 k) := ht.blk.cell 1
  clear ht
  go_enter Tryd.func16, Tryd.ntmps16
  go_wp2_with fail
  go_ret
  exact ⟨rfl, rfl⟩
end Go.Proofs.YthbhbechemnidaaDoor
