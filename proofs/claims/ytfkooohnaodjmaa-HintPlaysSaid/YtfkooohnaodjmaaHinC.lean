/- Contracts of hint.Store's Len, Gone, Expire and of their closures. -/
import Derived.Test.YtfkooohnaodjmaaHinB
import Derived.Shelf.Abstract
namespace Go.Proofs.Ytfkooohnaodjmaa
open Go.RowKit Go.Sort

/-- A store of hints in memory: its block, its row, and what hangs on it. -/
structure StH (w : World) (gs base : Nat) (v : Value) (L : List HintS) : Prop where
  blk : Blk w gs 26 #[v]
  own : OwnH w base v L
  hang : HangH w v.ownBlock L
  hang2 : HangH w (some gs) L
  ok : ∀ h ∈ L, okH h
  ne : v.ownBlock ≠ some gs
  base_ : base ≤ gs
  low : ∀ h ∈ L, ∀ ad, h.e.A = some ad → ad.block < w.heap.size
theorem StH.below {w w' : World} {gs base : Nat} {v : Value} {L : List HintS} (h : StH w gs base v L) (b : Below w.heap.size w w') : StH w' gs base v L :=
  ⟨h.blk.below b h.blk.lt, own_below h.own b, h.hang.below b, h.hang2.below b, h.ok, h.ne, h.base_, fun x hx ad ha => Nat.lt_of_lt_of_le (h.low x hx ad ha) b.size⟩
/-- What a store's call may turn: its block and its row. -/
def StS (gs : Nat) (v : Value) (k : Nat) : Prop := some k ≠ some gs ∧ some k ≠ v.ownBlock
/-- The store is a row of other elements. -/
theorem StH.stored {w w' : World} {gs base : Nat} {v v' : Value} {L L' : List HintS} (h : StH w gs base v L) (ho : OwnH w' base v' L') (hh : HangH w' v'.ownBlock L') (hok : ∀ x ∈ L', okH x) (hs : Stand (fun k => some k ≠ v.ownBlock) w w')
    (hl : LiesIn w v v') (hfar : ∀ x ∈ L', ∀ ad, x.e.A = some ad → some gs ≠ some ad.block) (hlow : ∀ x ∈ L', ∀ ad, x.e.A = some ad → ad.block < w'.heap.size) : StH (w'.setCell ⟨gs, 0, none⟩ v') gs base v' L' ∧ Stand (StS gs v) w (w'.setCell ⟨gs, 0, none⟩ v') := by
  have hne : some gs ≠ v.ownBlock := fun e => h.ne e.symm
  have hb := hs.blk hne h.blk
  have hne' : v'.ownBlock ≠ some gs := by
    rcases hl with e | ⟨g, e, hg⟩
    · rw [e]; exact h.ne
    · rw [e]; intro e2; injection e2 with e2; have := h.blk.lt; omega
  have hset := only_set1 w' gs 0 v'
  refine ⟨⟨?_, World.ownsRow.kept ho hset (.inr hne'), Hangs.other hh hset (fun e he ad ha => hfar e he ad ha), ?_, hok, hne', h.base_, fun x hx ad ha => Nat.lt_of_lt_of_le (hlow x hx ad ha) hset.size⟩, ?_⟩
  · have := hb.set_ 0 v'
    exact this
  · exact fun e he => ⟨reads_grown_ne (hh e he).1 hset (hfar e he), hfar e he⟩
  · exact (hs.mono (fun k hk => hk.2)).trans (Stand.of_grown hset (fun k hk h2 => h2.1 hk.symm))
/-- append of a hint. -/
theorem append_hint {ops : Array Oper} {rest : List Oper} {o : Oper} {a : Act} {Q : Exit → Act → World → Prop} (w : World) (x0 : HintS) (u : Array Value) (hu : u.toList = hintL x0) (t : TypeId) (hgd : o.guard = none) (sl x : Operand)
    (ho : o.op = .call { callee := .builtin .append, args := #[sl, x], argTypes := #[24, 24] }) (base : Nat) (v : Value) (L : List HintS) (hs : a.eval sl = v) (hown : OwnH w base v L)
    (hx : a.eval x = .slice (some ⟨w.heap.size, 0, none⟩) 1 1) (hlen : L.length ≤ 1000000) (hbase : base ≤ w.heap.size)
    (h : ∀ v' w', OwnH w' base v' (L ++ [x0]) → (w.alloc (.cells u t)).grownBy w' v.ownBlock → LiesIn w v v' → wpList Try.prog ops Q rest (a.put o.dst v') w') :
    wpList Try.prog ops Q (o :: rest) a (w.alloc (.cells u t)) := by
  refine append_elem_b w u (hintL x0) hu t hgd sl x 24 ho base 45 _ 12 136 Try.underlying24 info_hint rfl (by decide) v L.length (L.flatMap hintL) hs hown rfl (hint_one x0) hx (by unfold maxLen; omega) (by omega) hbase ?_
  intro v' w' h1 h2 h3
  refine h v' w' ?_ h2 ?_
  · unfold OwnH
    rw [List.flatMap_append, List.length_append]
    simpa using h1
  · rcases h3 with h3 | ⟨g, h3, hg⟩
    · exact .inl h3
    · exact .inr ⟨g, h3, Nat.le_trans (Nat.le_succ _) (by rw [World.size_alloc] at hg; exact hg)⟩

set_option maxRecDepth 100000 in
theorem hint_Len (gs : Nat) (A : Option Addr) (n c : Nat) (w : World) (hb : Blk w gs 26 #[.slice A n c]) :
    Calls Try.prog 9 #[.pointer (some ⟨gs, 0, none⟩)] w fun e w' => e = .returned (.int .i64 n) ∧ w = w' := by
  have q0 := hb.cell 0
  go_enter Try.func9, Try.ntmps9
  go_wp2_with fail
  go_ret
  exact ⟨rfl, rfl⟩

set_option maxRecDepth 100000 in
theorem hint_expired (bn : Nat) (now : Int) (x : HintS) (w : World) (hb : Blk w bn 3 #[.int .i64 now]) :
    Calls Try.prog 52 (#[.agg (hintC x)] ++ #[.pointer (some ⟨bn, 0, none⟩)]) w fun e w' => e = .returned (.bool (decide (x.until_ ≤ now))) ∧ Below w.heap.size w w' := by
  unfold hintC
  have hB := (Below.refl w.heap.size w).alloc (Nat.le_refl _) (.cells #[.int .i64 x.to, .int .i64 x.until_, .int .i64 x.e.m.tab, .int .i64 x.e.m.kind, .string x.e.m.key, .string x.e.m.en, .string x.e.m.val, .int .i64 x.e.m.exp, .int .i64 x.e.m.at_.1, .int .i64 x.e.m.at_.2.1, .int .i64 x.e.m.at_.2.2, .slice x.e.A x.e.n x.e.c] 45)
  have B0 := Blk.new w 45 #[.int .i64 x.to, .int .i64 x.until_, .int .i64 x.e.m.tab, .int .i64 x.e.m.kind, .string x.e.m.key, .string x.e.m.en, .string x.e.m.val, .int .i64 x.e.m.exp, .int .i64 x.e.m.at_.1, .int .i64 x.e.m.at_.2.1, .int .i64 x.e.m.at_.2.2, .slice x.e.A x.e.n x.e.c]
  have c0 := (hb.alloc (.cells #[.int .i64 x.to, .int .i64 x.until_, .int .i64 x.e.m.tab, .int .i64 x.e.m.kind, .string x.e.m.key, .string x.e.m.en, .string x.e.m.val, .int .i64 x.e.m.exp, .int .i64 x.e.m.at_.1, .int .i64 x.e.m.at_.2.1, .int .i64 x.e.m.at_.2.2, .slice x.e.A x.e.n x.e.c] 45)).cell 0
  have c1 := B0.cell 1
  clear B0
  go_enter Try.func52, Try.ntmps52
  go_wp2_with fail
  go_ret
  exact ⟨ret_bool' (by simp), hB⟩

set_option maxRecDepth 100000 in
theorem hint_gone (bt ba : Nat) (to : Int) (at_ : Int × Int × Int) (x : HintS) (w : World) (hb : Blk w bt 3 #[.int .i64 to]) (hb2 : Blk w ba 30 #[.int .i64 at_.1, .int .i64 at_.2.1, .int .i64 at_.2.2]) :
    Calls Try.prog 51 (#[.agg (hintC x)] ++ #[.pointer (some ⟨bt, 0, none⟩), .pointer (some ⟨ba, 0, none⟩)]) w fun e w' => e = .returned (.bool (decide (x.to = to) && decide (x.e.m.at_ = at_))) ∧ Below w.heap.size w w' := by
  unfold hintC
  have hB := (Below.refl w.heap.size w).alloc (Nat.le_refl _) (.cells #[.int .i64 x.to, .int .i64 x.until_, .int .i64 x.e.m.tab, .int .i64 x.e.m.kind, .string x.e.m.key, .string x.e.m.en, .string x.e.m.val, .int .i64 x.e.m.exp, .int .i64 x.e.m.at_.1, .int .i64 x.e.m.at_.2.1, .int .i64 x.e.m.at_.2.2, .slice x.e.A x.e.n x.e.c] 45)
  have B0 := Blk.new w 45 #[.int .i64 x.to, .int .i64 x.until_, .int .i64 x.e.m.tab, .int .i64 x.e.m.kind, .string x.e.m.key, .string x.e.m.en, .string x.e.m.val, .int .i64 x.e.m.exp, .int .i64 x.e.m.at_.1, .int .i64 x.e.m.at_.2.1, .int .i64 x.e.m.at_.2.2, .slice x.e.A x.e.n x.e.c]
  have t0 := (hb.alloc (.cells #[.int .i64 x.to, .int .i64 x.until_, .int .i64 x.e.m.tab, .int .i64 x.e.m.kind, .string x.e.m.key, .string x.e.m.en, .string x.e.m.val, .int .i64 x.e.m.exp, .int .i64 x.e.m.at_.1, .int .i64 x.e.m.at_.2.1, .int .i64 x.e.m.at_.2.2, .slice x.e.A x.e.n x.e.c] 45)).cell 0
  have C2 := (hb2.alloc (.cells #[.int .i64 x.to, .int .i64 x.until_, .int .i64 x.e.m.tab, .int .i64 x.e.m.kind, .string x.e.m.key, .string x.e.m.en, .string x.e.m.val, .int .i64 x.e.m.exp, .int .i64 x.e.m.at_.1, .int .i64 x.e.m.at_.2.1, .int .i64 x.e.m.at_.2.2, .slice x.e.A x.e.n x.e.c] 45)).cell
  have a0 := C2 0
  have a1 := C2 1
  have a2 := C2 2
  have c0 := B0.cell 0
  have c6 := B0.cell 8
  have c7 := B0.cell 9
  have c8 := B0.cell 10
  clear B0 C2
  by_cases h1 : x.to = to
  · have d1 : (x.to == to) = true := by simp [h1]
    have hcase : ((x.e.m.at_.1 == at_.1) = true ∧ (x.e.m.at_.2.1 == at_.2.1) = true ∧ (x.e.m.at_.2.2 == at_.2.2) = true ∧ (decide (x.to = to) && decide (x.e.m.at_ = at_)) = true) ∨
        ((x.e.m.at_.1 == at_.1) = false ∧ (decide (x.to = to) && decide (x.e.m.at_ = at_)) = false) ∨
        ((x.e.m.at_.1 == at_.1) = true ∧ (x.e.m.at_.2.1 == at_.2.1) = false ∧ (decide (x.to = to) && decide (x.e.m.at_ = at_)) = false) ∨
        ((x.e.m.at_.1 == at_.1) = true ∧ (x.e.m.at_.2.1 == at_.2.1) = true ∧ (x.e.m.at_.2.2 == at_.2.2) = false ∧ (decide (x.to = to) && decide (x.e.m.at_ = at_)) = false) := by
      rw [decide_eq_true h1, Bool.true_and]
      generalize x.e.m.at_ = p
      obtain ⟨p1, p2, p3⟩ := p
      obtain ⟨q1, q2, q3⟩ := at_
      by_cases e1 : p1 = q1 <;> by_cases e2 : p2 = q2 <;> by_cases e3 : p3 = q3 <;> simp [e1, e2, e3]
    clear h1
    rcases hcase with ⟨e1, e2, e3, hr⟩ | ⟨e1, hr⟩ | ⟨e1, e2, hr⟩ | ⟨e1, e2, e3, hr⟩
    all_goals
      have HR := Lib.hid hr
      clear hr
      go_enter Try.func51, Try.ntmps51
      go_wp2_with fail
      go_ret
      exact ⟨ret_bool' HR.out.symm, hB⟩
  · have d1 : (x.to == to) = false := by simp [h1]
    have HR : Hid ((decide (x.to = to) && decide (x.e.m.at_ = at_)) = false) := Lib.hid (by rw [decide_eq_false h1, Bool.false_and])
    clear h1
    go_enter Try.func51, Try.ntmps51
    go_wp2_with fail
    go_ret
    exact ⟨ret_bool' HR.out.symm, hB⟩

set_option maxRecDepth 100000 in
theorem hint_same (bt bm : Nat) (to : Int) (m : Mut) (A : Option Addr) (n c : Nat) (x : HintS) (w : World) (hb : Blk w bt 3 #[.int .i64 to]) (hb2 : Blk w bm 33 (mutC m (.slice A n c)))
    (hx : Reads w w.heap.size 3 x.e.A x.e.n (x.e.m.ov.flatMap sc)) (hm : Reads w w.heap.size 3 A n (m.ov.flatMap sc)) (hn : x.e.n ≤ 1000000000) :
    Calls Try.prog 20 (#[.agg (hintC x)] ++ #[.pointer (some ⟨bt, 0, none⟩), .pointer (some ⟨bm, 0, none⟩)]) w fun e w' => e = .returned (.bool (decide (x.to = to) && (cmpM x.e.m m == 0))) ∧ Below w.heap.size w w' := by
  unfold hintC
  have hB := (Below.refl w.heap.size w).alloc (Nat.le_refl _) (.cells #[.int .i64 x.to, .int .i64 x.until_, .int .i64 x.e.m.tab, .int .i64 x.e.m.kind, .string x.e.m.key, .string x.e.m.en, .string x.e.m.val, .int .i64 x.e.m.exp, .int .i64 x.e.m.at_.1, .int .i64 x.e.m.at_.2.1, .int .i64 x.e.m.at_.2.2, .slice x.e.A x.e.n x.e.c] 45)
  have B0 := Blk.new w 45 #[.int .i64 x.to, .int .i64 x.until_, .int .i64 x.e.m.tab, .int .i64 x.e.m.kind, .string x.e.m.key, .string x.e.m.en, .string x.e.m.val, .int .i64 x.e.m.exp, .int .i64 x.e.m.at_.1, .int .i64 x.e.m.at_.2.1, .int .i64 x.e.m.at_.2.2, .slice x.e.A x.e.n x.e.c]
  have t0 := (hb.alloc (.cells #[.int .i64 x.to, .int .i64 x.until_, .int .i64 x.e.m.tab, .int .i64 x.e.m.kind, .string x.e.m.key, .string x.e.m.en, .string x.e.m.val, .int .i64 x.e.m.exp, .int .i64 x.e.m.at_.1, .int .i64 x.e.m.at_.2.1, .int .i64 x.e.m.at_.2.2, .slice x.e.A x.e.n x.e.c] 45)).cell 0
  have C2 : ∀ i, (w.alloc (.cells #[.int .i64 x.to, .int .i64 x.until_, .int .i64 x.e.m.tab, .int .i64 x.e.m.kind, .string x.e.m.key, .string x.e.m.en, .string x.e.m.val, .int .i64 x.e.m.exp, .int .i64 x.e.m.at_.1, .int .i64 x.e.m.at_.2.1, .int .i64 x.e.m.at_.2.2, .slice x.e.A x.e.n x.e.c] 45)).cell? ⟨bm, i, none⟩ = (mutC m (.slice A n c))[i]? := (hb2.alloc (.cells #[.int .i64 x.to, .int .i64 x.until_, .int .i64 x.e.m.tab, .int .i64 x.e.m.kind, .string x.e.m.key, .string x.e.m.en, .string x.e.m.val, .int .i64 x.e.m.exp, .int .i64 x.e.m.at_.1, .int .i64 x.e.m.at_.2.1, .int .i64 x.e.m.at_.2.2, .slice x.e.A x.e.n x.e.c] 45)).cell

  have m0 : (w.alloc (.cells #[.int .i64 x.to, .int .i64 x.until_, .int .i64 x.e.m.tab, .int .i64 x.e.m.kind, .string x.e.m.key, .string x.e.m.en, .string x.e.m.val, .int .i64 x.e.m.exp, .int .i64 x.e.m.at_.1, .int .i64 x.e.m.at_.2.1, .int .i64 x.e.m.at_.2.2, .slice x.e.A x.e.n x.e.c] 45)).cell? ⟨bm, 0, none⟩ = some (.int .i64 m.tab) := C2 0
  have m1 : (w.alloc (.cells #[.int .i64 x.to, .int .i64 x.until_, .int .i64 x.e.m.tab, .int .i64 x.e.m.kind, .string x.e.m.key, .string x.e.m.en, .string x.e.m.val, .int .i64 x.e.m.exp, .int .i64 x.e.m.at_.1, .int .i64 x.e.m.at_.2.1, .int .i64 x.e.m.at_.2.2, .slice x.e.A x.e.n x.e.c] 45)).cell? ⟨bm, 1, none⟩ = some (.int .i64 m.kind) := C2 1
  have m2 : (w.alloc (.cells #[.int .i64 x.to, .int .i64 x.until_, .int .i64 x.e.m.tab, .int .i64 x.e.m.kind, .string x.e.m.key, .string x.e.m.en, .string x.e.m.val, .int .i64 x.e.m.exp, .int .i64 x.e.m.at_.1, .int .i64 x.e.m.at_.2.1, .int .i64 x.e.m.at_.2.2, .slice x.e.A x.e.n x.e.c] 45)).cell? ⟨bm, 2, none⟩ = some (.string m.key) := C2 2
  have m3 : (w.alloc (.cells #[.int .i64 x.to, .int .i64 x.until_, .int .i64 x.e.m.tab, .int .i64 x.e.m.kind, .string x.e.m.key, .string x.e.m.en, .string x.e.m.val, .int .i64 x.e.m.exp, .int .i64 x.e.m.at_.1, .int .i64 x.e.m.at_.2.1, .int .i64 x.e.m.at_.2.2, .slice x.e.A x.e.n x.e.c] 45)).cell? ⟨bm, 3, none⟩ = some (.string m.en) := C2 3
  have m4 : (w.alloc (.cells #[.int .i64 x.to, .int .i64 x.until_, .int .i64 x.e.m.tab, .int .i64 x.e.m.kind, .string x.e.m.key, .string x.e.m.en, .string x.e.m.val, .int .i64 x.e.m.exp, .int .i64 x.e.m.at_.1, .int .i64 x.e.m.at_.2.1, .int .i64 x.e.m.at_.2.2, .slice x.e.A x.e.n x.e.c] 45)).cell? ⟨bm, 4, none⟩ = some (.string m.val) := C2 4
  have m5 : (w.alloc (.cells #[.int .i64 x.to, .int .i64 x.until_, .int .i64 x.e.m.tab, .int .i64 x.e.m.kind, .string x.e.m.key, .string x.e.m.en, .string x.e.m.val, .int .i64 x.e.m.exp, .int .i64 x.e.m.at_.1, .int .i64 x.e.m.at_.2.1, .int .i64 x.e.m.at_.2.2, .slice x.e.A x.e.n x.e.c] 45)).cell? ⟨bm, 5, none⟩ = some (.int .i64 m.exp) := C2 5
  have m6 : (w.alloc (.cells #[.int .i64 x.to, .int .i64 x.until_, .int .i64 x.e.m.tab, .int .i64 x.e.m.kind, .string x.e.m.key, .string x.e.m.en, .string x.e.m.val, .int .i64 x.e.m.exp, .int .i64 x.e.m.at_.1, .int .i64 x.e.m.at_.2.1, .int .i64 x.e.m.at_.2.2, .slice x.e.A x.e.n x.e.c] 45)).cell? ⟨bm, 6, none⟩ = some (.int .i64 m.at_.1) := C2 6
  have m7 : (w.alloc (.cells #[.int .i64 x.to, .int .i64 x.until_, .int .i64 x.e.m.tab, .int .i64 x.e.m.kind, .string x.e.m.key, .string x.e.m.en, .string x.e.m.val, .int .i64 x.e.m.exp, .int .i64 x.e.m.at_.1, .int .i64 x.e.m.at_.2.1, .int .i64 x.e.m.at_.2.2, .slice x.e.A x.e.n x.e.c] 45)).cell? ⟨bm, 7, none⟩ = some (.int .i64 m.at_.2.1) := C2 7
  have m8 : (w.alloc (.cells #[.int .i64 x.to, .int .i64 x.until_, .int .i64 x.e.m.tab, .int .i64 x.e.m.kind, .string x.e.m.key, .string x.e.m.en, .string x.e.m.val, .int .i64 x.e.m.exp, .int .i64 x.e.m.at_.1, .int .i64 x.e.m.at_.2.1, .int .i64 x.e.m.at_.2.2, .slice x.e.A x.e.n x.e.c] 45)).cell? ⟨bm, 8, none⟩ = some (.int .i64 m.at_.2.2) := C2 8
  have m9 : (w.alloc (.cells #[.int .i64 x.to, .int .i64 x.until_, .int .i64 x.e.m.tab, .int .i64 x.e.m.kind, .string x.e.m.key, .string x.e.m.en, .string x.e.m.val, .int .i64 x.e.m.exp, .int .i64 x.e.m.at_.1, .int .i64 x.e.m.at_.2.1, .int .i64 x.e.m.at_.2.2, .slice x.e.A x.e.n x.e.c] 45)).cell? ⟨bm, 9, none⟩ = some (.slice A n c) := C2 9
  have c0 := B0.cell 0
  have c1 := B0.cell 1
  have c2 := B0.cell 2
  have c3 := B0.cell 3
  have c4 := B0.cell 4
  have c5 := B0.cell 5
  have c6 := B0.cell 6
  have c7 := B0.cell 7
  have c8 := B0.cell 8
  have c9 := B0.cell 9
  have c10 := B0.cell 10
  have c11 := B0.cell 11
  have HS := Lib.hid (mut_Same x.e.m m x.e.A A x.e.n x.e.c n c (w.alloc (.cells #[.int .i64 x.to, .int .i64 x.until_, .int .i64 x.e.m.tab, .int .i64 x.e.m.kind, .string x.e.m.key, .string x.e.m.en, .string x.e.m.val, .int .i64 x.e.m.exp, .int .i64 x.e.m.at_.1, .int .i64 x.e.m.at_.2.1, .int .i64 x.e.m.at_.2.2, .slice x.e.A x.e.n x.e.c] 45)) ((hx.alloc (Nat.le_refl _) _).more (by simp)) ((hm.alloc (Nat.le_refl _) _).more (by simp)) hn)
  clear B0 C2 hb2 hx hm
  unfold mutC at HS
  by_cases h1 : x.to = to
  · have d1 : (x.to == to) = true := by simp [h1]
    have HR : Hid ((decide (x.to = to) && (cmpM x.e.m m == 0)) = (cmpM x.e.m m == 0)) := Lib.hid (by rw [decide_eq_true h1, Bool.true_and])
    clear h1
    go_enter Try.func20, Try.ntmps20
    go_wp2_with fail
    refine HS.out.mono ?_
    rintro e w' ⟨rfl, hb'⟩
    go_wp2_with fail
    go_ret
    exact ⟨ret_bool' HR.out.symm, hB.trans (hb'.mono hB.size)⟩
  · have d1 : (x.to == to) = false := by simp [h1]
    have HR : Hid ((decide (x.to = to) && (cmpM x.e.m m == 0)) = false) := Lib.hid (by rw [decide_eq_false h1, Bool.false_and])
    clear h1
    go_enter Try.func20, Try.ntmps20
    go_wp2_with fail
    go_ret
    exact ⟨ret_bool' HR.out.symm, hB⟩

/-- What Gone and Expire do. -/
theorem hint_Expire (gs base : Nat) (v : Value) (L : List HintS) (now : Int) (w : World) (h : StH w gs base v L) (hn : L.length ≤ 1000000) :
    Calls Try.prog 26 #[.pointer (some ⟨gs, 0, none⟩), .int .i64 now] w fun e w' => ∃ v' L', e = .returned (.int .i64 ((L.length : Int) - L'.length)) ∧ StH w' gs base v' L' ∧ L'.map hp = (L.map hp).filter (fun h => !(decide (h.until_ ≤ now))) ∧ Stand (StS gs v) w w' ∧ LiesIn w v v' := by
  obtain ⟨A, c, rfl, hc, -, -⟩ := own_form h.own
  obtain ⟨W, hW⟩ : ∃ W, w.alloc (.cells #[.int .i64 now] 3) = W := ⟨_, rfl⟩
  have bW : Below w.heap.size w W := by rw [← hW]; exact (Below.refl _ _).alloc (Nat.le_refl _) _
  have BT : Hid (Blk W w.heap.size 3 #[.int .i64 now]) := Lib.hid (by rw [← hW]; exact Blk.new _ _ _)
  have HNE : Hid (some w.heap.size ≠ (Value.slice A L.length c).ownBlock) := Lib.hid (fun e => by have := (World.ownsRow.lt h.own _ e.symm).2; omega)
  have hW1 := h.below bW
  have hgs := hW1.blk.lt
  have q0 : W.cell? ⟨gs, 0, none⟩ = some (.slice A L.length c) := hW1.blk.cell 0
  have eg : ∀ args w, (callFunc 52 args).run Try.prog w = .ok (.enter 52 args) w := enters_of Try.func52 (by kernel_rfl) rfl
  have HC := Lib.hid (hints_DeleteFunc (.slice A L.length c) L W base 52 #[.pointer (some ⟨w.heap.size, 0, none⟩)] (fun h => decide (h.until_ ≤ now)) eg hW1.own hW1.hang hW1.ok hn (fun U x hU hr hok => hint_expired w.heap.size now x U (hU.blk HNE.out BT.out)))
  have HW1 := Lib.hid hW1
  have HL : Hid (∀ w1 : World, Stand (fun k => some k ≠ (Value.slice A L.length c).ownBlock) W w1 → w1.cell? ⟨gs, 0, none⟩ = some (.slice A L.length c) ∧ w1.frozen? ⟨gs, 0, none⟩ = false) := Lib.hid (fun w1 hs => by
    have := hs.blk (fun e => HW1.out.ne e.symm) HW1.out.blk
    exact ⟨this.cell 0, this.frozen 0⟩)
  have hfar : ∀ x ∈ L, ∀ ad, x.e.A = some ad → some gs ≠ some ad.block := fun x hx ad ha => (HW1.out.hang2 x hx).2 ad ha
  have HF := Lib.hid hfar
  have HW : Hid (∀ k, some k ≠ some gs → True) := Lib.hid (fun _ _ => trivial)
  obtain ⟨n, hnl⟩ : ∃ n, L.length = n := ⟨_, rfl⟩
  have HN := Lib.hid hnl
  rw [hnl] at q0 HC HL hc hn HW1 ⊢
  clear hnl hfar hW1 h HW
  go_enter Try.func26, Try.ntmps26
  go_wp2_with fail
  clear hW BT HNE
  refine HC.out.mono ?_
  rintro e w1 ⟨v1, rfl, o1, g1, e1, s1⟩
  obtain ⟨c1, f1⟩ := HL.out w1 s1
  obtain ⟨A1, k1, rfl, -, -, -⟩ := own_form o1
  obtain ⟨L1, hL1⟩ : ∃ L1, L.filter (fun h => !(decide ((hp h).until_ ≤ now))) = L1 := ⟨_, rfl⟩
  have hfil : L1.map hp = (L.map hp).filter (fun h => !(decide (h.until_ ≤ now))) := by
    rw [← hL1, List.filter_map]
    rfl
  have hsub : ∀ x ∈ L1, x ∈ L := fun x hx => by rw [← hL1] at hx; exact (List.mem_filter.1 hx).1
  have s1' : Stand (fun k => some k ≠ (Value.slice A n c).ownBlock) W w1 := s1
  have P : StH (w1.setCell ⟨gs, 0, none⟩ (.slice A1 L1.length k1)) gs base (.slice A1 L1.length k1) L1 ∧ Stand (StS gs (.slice A n c)) W (w1.setCell ⟨gs, 0, none⟩ (.slice A1 L1.length k1)) := by
    rw [← hL1]
    exact StH.stored HW1.out o1 g1 (fun x hx => HW1.out.ok x ((List.mem_filter.1 hx).1)) s1' (.inl e1) (fun x hx => HF.out x ((List.mem_filter.1 hx).1)) (fun x hx ad ha => Nat.lt_of_lt_of_le (HW1.out.low x (List.mem_filter.1 hx).1 ad ha) s1.size)
  have e1' : LiesIn w (.slice A n c) (.slice A1 L1.length k1) := .inl (by rw [← hL1]; exact e1)
  have HP := Lib.hid (And.intro P (And.intro hfil e1'))
  have hlen : L1.length ≤ n := by rw [← hL1, ← HN.out]; exact List.length_filter_le _ _
  rw [hL1]
  clear P hfil hsub s1 s1' o1 g1 hL1 e1 e1' HC HL HW1 HF HN
  obtain ⟨n1, hn1⟩ : ∃ n1, L1.length = n1 := ⟨_, rfl⟩
  have HN1 := Lib.hid hn1
  rw [hn1] at HP hlen ⊢
  clear hn1
  go_wp2_with fail
  go_ret
  refine ⟨_, L1, ?_, HP.out.1.1, HP.out.2.1, ((Stand.of_below bW).trans HP.out.1.2), HP.out.2.2⟩
  rw [HN1.out]
  rfl

/-- What Gone and Expire do. -/
theorem hint_Gone (gs base : Nat) (v : Value) (L : List HintS) (to : Int) (at_ : Int × Int × Int) (w : World) (h : StH w gs base v L) (hn : L.length ≤ 1000000) :
    Calls Try.prog 25 #[.pointer (some ⟨gs, 0, none⟩), .int .i64 to, .agg #[.int .i64 at_.1, .int .i64 at_.2.1, .int .i64 at_.2.2]] w fun e w' => ∃ v' L', e = .returned (.int .i64 ((L.length : Int) - L'.length)) ∧ StH w' gs base v' L' ∧ L'.map hp = (L.map hp).filter (fun h => !(decide (h.to = to) && decide (h.m.at_ = at_))) ∧ Stand (StS gs v) w w' ∧ LiesIn w v v' := by
  obtain ⟨A, c, rfl, hc, -, -⟩ := own_form h.own
  obtain ⟨W, hW⟩ : ∃ W, (w.alloc (.cells #[.int .i64 to] 3)).alloc (.cells #[.int .i64 at_.1, .int .i64 at_.2.1, .int .i64 at_.2.2] 30) = W := ⟨_, rfl⟩
  have bW : Below w.heap.size w W := by rw [← hW]; exact ((Below.refl _ _).alloc (Nat.le_refl _) _).alloc (by simp) _
  have BT : Hid (Blk W w.heap.size 3 #[.int .i64 to]) := Lib.hid (by rw [← hW]; exact (Blk.new _ _ _).alloc _)
  have BA : Hid (Blk W (w.heap.size + 1) 30 #[.int .i64 at_.1, .int .i64 at_.2.1, .int .i64 at_.2.2]) := Lib.hid (by
    rw [← hW]
    have h1 := Blk.new (w.alloc (.cells #[.int .i64 to] 3)) 30 #[.int .i64 at_.1, .int .i64 at_.2.1, .int .i64 at_.2.2]
    rw [World.size_alloc] at h1
    exact h1)
  have HNE : Hid (some w.heap.size ≠ (Value.slice A L.length c).ownBlock) := Lib.hid (fun e => by have := (World.ownsRow.lt h.own _ e.symm).2; omega)
  have HNE2 : Hid (some (w.heap.size + 1) ≠ (Value.slice A L.length c).ownBlock) := Lib.hid (fun e => by have := (World.ownsRow.lt h.own _ e.symm).2; omega)
  have hW1 := h.below bW
  have hgs := hW1.blk.lt
  have q0 : W.cell? ⟨gs, 0, none⟩ = some (.slice A L.length c) := hW1.blk.cell 0
  have eg : ∀ args w, (callFunc 51 args).run Try.prog w = .ok (.enter 51 args) w := enters_of Try.func51 (by kernel_rfl) rfl
  have HC := Lib.hid (hints_DeleteFunc (.slice A L.length c) L W base 51 #[.pointer (some ⟨w.heap.size, 0, none⟩), .pointer (some ⟨w.heap.size + 1, 0, none⟩)] (fun h => decide (h.to = to) && decide (h.m.at_ = at_)) eg hW1.own hW1.hang hW1.ok hn (fun U x hU hr hok => hint_gone w.heap.size (w.heap.size + 1) to at_ x U (hU.blk HNE.out BT.out) (hU.blk HNE2.out BA.out)))
  have HW1 := Lib.hid hW1
  have HL : Hid (∀ w1 : World, Stand (fun k => some k ≠ (Value.slice A L.length c).ownBlock) W w1 → w1.cell? ⟨gs, 0, none⟩ = some (.slice A L.length c) ∧ w1.frozen? ⟨gs, 0, none⟩ = false) := Lib.hid (fun w1 hs => by
    have := hs.blk (fun e => HW1.out.ne e.symm) HW1.out.blk
    exact ⟨this.cell 0, this.frozen 0⟩)
  have hfar : ∀ x ∈ L, ∀ ad, x.e.A = some ad → some gs ≠ some ad.block := fun x hx ad ha => (HW1.out.hang2 x hx).2 ad ha
  have HF := Lib.hid hfar
  have HW : Hid (∀ k, some k ≠ some gs → True) := Lib.hid (fun _ _ => trivial)
  obtain ⟨n, hnl⟩ : ∃ n, L.length = n := ⟨_, rfl⟩
  have HN := Lib.hid hnl
  rw [hnl] at q0 HC HL hc hn HW1 ⊢
  clear hnl hfar hW1 h HW
  go_enter Try.func25, Try.ntmps25
  go_wp2_with fail
  clear hW BT BA HNE HNE2
  refine HC.out.mono ?_
  rintro e w1 ⟨v1, rfl, o1, g1, e1, s1⟩
  obtain ⟨c1, f1⟩ := HL.out w1 s1
  obtain ⟨A1, k1, rfl, -, -, -⟩ := own_form o1
  obtain ⟨L1, hL1⟩ : ∃ L1, L.filter (fun h => !(decide ((hp h).to = to) && decide ((hp h).m.at_ = at_))) = L1 := ⟨_, rfl⟩
  have hfil : L1.map hp = (L.map hp).filter (fun h => !(decide (h.to = to) && decide (h.m.at_ = at_))) := by
    rw [← hL1, List.filter_map]
    rfl
  have hsub : ∀ x ∈ L1, x ∈ L := fun x hx => by rw [← hL1] at hx; exact (List.mem_filter.1 hx).1
  have s1' : Stand (fun k => some k ≠ (Value.slice A n c).ownBlock) W w1 := s1
  have P : StH (w1.setCell ⟨gs, 0, none⟩ (.slice A1 L1.length k1)) gs base (.slice A1 L1.length k1) L1 ∧ Stand (StS gs (.slice A n c)) W (w1.setCell ⟨gs, 0, none⟩ (.slice A1 L1.length k1)) := by
    rw [← hL1]
    exact StH.stored HW1.out o1 g1 (fun x hx => HW1.out.ok x ((List.mem_filter.1 hx).1)) s1' (.inl e1) (fun x hx => HF.out x ((List.mem_filter.1 hx).1)) (fun x hx ad ha => Nat.lt_of_lt_of_le (HW1.out.low x (List.mem_filter.1 hx).1 ad ha) s1.size)
  have e1' : LiesIn w (.slice A n c) (.slice A1 L1.length k1) := .inl (by rw [← hL1]; exact e1)
  have HP := Lib.hid (And.intro P (And.intro hfil e1'))
  have hlen : L1.length ≤ n := by rw [← hL1, ← HN.out]; exact List.length_filter_le _ _
  rw [hL1]
  clear P hfil hsub s1 s1' o1 g1 hL1 e1 e1' HC HL HW1 HF HN
  obtain ⟨n1, hn1⟩ : ∃ n1, L1.length = n1 := ⟨_, rfl⟩
  have HN1 := Lib.hid hn1
  rw [hn1] at HP hlen ⊢
  clear hn1
  go_wp2_with fail
  go_ret
  refine ⟨_, L1, ?_, HP.out.1.1, HP.out.2.1, ((Stand.of_below bW).trans HP.out.1.2), HP.out.2.2⟩
  rw [HN1.out]
  rfl

end Go.Proofs.Ytfkooohnaodjmaa
