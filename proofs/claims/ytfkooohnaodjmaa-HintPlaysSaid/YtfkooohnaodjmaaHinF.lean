/- Contracts of hint.Store's For and of the law's all: what the iterator hands out, collected. -/
import Derived.Test.YtfkooohnaodjmaaHinE
import Derived.OwnWalkIn
import Derived.OrdersIn
namespace Go.Proofs.Ytfkooohnaodjmaa
open Go.RowKit Go.Sort Go.Shelf
attribute [local go_sem] Oper.semAt_some

theorem turn_ne {W : World} {base size n : Nat} {e : TypeId} {v : Value} {xs : List Value} {row : Option Nat} (h : W.ownsRow base e size v n xs) (hr : ∀ r, row = some r → ∃ o : Obj, W.heap[r]? = some o ∧ o.isCells = false) : v.ownBlock = none ∨ v.ownBlock ≠ row := by
  rcases h.2 with ⟨hv, _⟩ | ⟨g, cap, cur, hv, _, hh, _⟩
  · left; rw [hv]; rfl
  · right
    intro e
    rw [hv] at e
    obtain ⟨o, ho, hc⟩ := hr g (by rw [← e]; rfl)
    rw [hh] at ho
    injection ho with ho
    subst ho
    cases hc
theorem keeps_of_own {W W' : World} {base size n : Nat} {e : TypeId} {v : Value} {xs : List Value} (h : W.ownsRow base e size v n xs) (hg : W.grownBy W' v.ownBlock) : KeepsOthers W W' :=
  ⟨hg.size, fun k o hk ho => (hg.block k (Array.getElem?_eq_some_iff.1 hk).1 (fun e => by
    rcases h.2 with ⟨hv, _⟩ | ⟨g, cap, cur, hv, _, hh, _⟩
    · rw [hv] at e; cases e
    · rw [hv] at e
      have e : k = g := by simpa [Value.ownBlock] using e
      subst e
      rw [hh] at hk
      injection hk with hk
      subst hk
      cases ho)).trans hk⟩
/-- Rows of other element types lie in other blocks. -/
theorem own_apart {W : World} {b1 b2 s1 s2 n1 n2 : Nat} {e1 e2 : TypeId} {v1 v2 : Value} {x1 x2 : List Value} (h1 : W.ownsRow b1 e1 s1 v1 n1 x1) (h2 : W.ownsRow b2 e2 s2 v2 n2 x2) (he : e1 ≠ e2) : v1.ownBlock = none ∨ v1.ownBlock ≠ v2.ownBlock := by
  rcases h1.2 with ⟨hv, _⟩ | ⟨g, cap, cur, hv, _, hh, _⟩
  · left; rw [hv]; rfl
  · right
    intro e
    rw [hv] at e
    rcases h2.2 with ⟨hv2, _⟩ | ⟨g2, cap2, cur2, hv2, _, hh2, _⟩
    · rw [hv2] at e; cases e
    · rw [hv2] at e
      have e : g = g2 := by simpa [Value.ownBlock] using e
      subst e
      rw [hh] at hh2
      injection hh2 with hh2
      injection hh2 with _ ht
      exact he ht
theorem run_equalIn_func_nil {P : Program} (w : World) (d : Nat) (t : TypeId) (a : Array TypeId) (b : Array TypeId) (c : Bool) (f : Fn) (x y : Array Value) (h : P.underlying t = some (.func a b c)) : (Op.equalIn (d + 1) t (.func f x y) .nilFunc).run P w = .ok false w := by
  simp [Op.equalIn, run_underlying h]
theorem run_eql_func_nil {P : Program} (w : World) (t : TypeId) (a : Array TypeId) (b : Array TypeId) (c : Bool) (f : Fn) (x y : Array Value) (h : P.underlying t = some (.func a b c)) : (binOp .eql t (.func f x y) .nilFunc).run P w = .ok (.bool false) w := by
  simp only [binOp]
  simp [Op.equal, Op.maxDepth, run_equalIn_func_nil w 9999 t a b c f x y h]
theorem box_kept {W w2 : World} {o : Obj} {g : Nat} {v : Value} {row : Option Nat} (h1 : W.cell? ⟨g, 0, none⟩ = some v) (hG : (W.alloc o).grownBy w2 row) (hne : ∀ q, row = some q → g < q) : w2.cell? ⟨g, 0, none⟩ = some v ∧ w2.frozen? ⟨g, 0, none⟩ = W.frozen? ⟨g, 0, none⟩ := by
  have hlt : g < W.heap.size := block_lt_of_cell h1
  have hb : w2.heap[g]? = W.heap[g]? := (hG.block g (by simp; omega) (fun e => by have := hne _ e.symm; omega)).trans (Below.heap_alloc W o g hlt)
  exact ⟨(World.cell?_of_block (a := ⟨g, 0, none⟩) hb).trans h1, by unfold World.frozen?; rw [hb]⟩

/-- A block that is no cells was turned: a row that reads still reads. -/
theorem reads_kept {w w' : World} {row : Option Nat} {k n : Nat} {A : Option Addr} {xs : List Value} (hk : 0 < k) (h : Reads w w.heap.size k A n xs) (hg : w.grownBy w' row) (hr : ∀ r, row = some r → ∃ o : Obj, w.heap[r]? = some o ∧ o.isCells = false) : Reads w' w'.heap.size k A n xs := by
  refine ⟨h.1, fun h0 => ?_⟩
  obtain ⟨ad, hA, hb, hc⟩ := h.2 h0
  have hl : 0 < xs.length := by rw [h.1]; exact Nat.mul_pos h0 hk
  have h1 := hg.block ad.block hb (fun e => by
    obtain ⟨o, ho, hno⟩ := hr _ e.symm
    have := hc 0 _ (List.getElem?_eq_getElem hl)
    unfold World.cell? at this
    rw [block_of_add, ho] at this
    cases o <;> first | (cases hno; done) | (simp at this))
  refine ⟨ad, hA, Nat.lt_of_lt_of_le hb hg.size, fun j u hu => ?_⟩
  rw [← hc j u hu]
  exact World.cell?_of_block (by rw [block_of_add]; exact h1)
theorem OwnM.kept {w w' : World} {base lo : Nat} {v : Value} {M : List Mut} {row : Option Nat} (h : OwnM w base lo v M) (hg : w.grownBy w' row) (hr : ∀ r, row = some r → ∃ o : Obj, w.heap[r]? = some o ∧ o.isCells = false) : OwnM w' base lo v M := by
  obtain ⟨L, rfl, h1, h2, h3, h4⟩ := h.row
  exact ⟨L, rfl, World.ownsRow.kept h1 hg (turn_ne h1 hr), fun e he => ⟨reads_kept (by decide) (h2 e he).1 hg hr, (h2 e he).2⟩, h3, fun e he ad hA => ⟨(h4 e he ad hA).1, Nat.lt_of_lt_of_le (h4 e he ad hA).2 hg.size⟩⟩
theorem OwnM.lo_le {w : World} {base lo lo' : Nat} {v : Value} {M : List Mut} (h : OwnM w base lo v M) (hb : lo' ≤ lo) : OwnM w base lo' v M := by
  obtain ⟨L, rfl, h1, h2, h3, h4⟩ := h.row
  exact ⟨L, rfl, h1, h2, h3, fun e he ad hA => ⟨Nat.le_trans hb (h4 e he ad hA).1, (h4 e he ad hA).2⟩⟩
theorem OwnHx.below {w w' : World} {lo : Nat} {x : HintS} (h : OwnHx w lo x) (b : Below w.heap.size w w') : OwnHx w' lo x := ⟨own_below h.1 b, h.2⟩
theorem OwnHx.kept {w w' : World} {lo : Nat} {x : HintS} {row : Option Nat} (h : OwnHx w lo x) (hg : w.grownBy w' row) (hr : ∀ r, row = some r → ∃ o : Obj, w.heap[r]? = some o ∧ o.isCells = false) : OwnHx w' lo x :=
  ⟨World.ownsRow.kept h.1 hg (turn_ne h.1 hr), h.2⟩
theorem OwnHx.rd {w : World} {lo : Nat} {x : HintS} (h : OwnHx w lo x) : Reads w w.heap.size 3 x.e.A x.e.n (x.e.m.ov.flatMap sc) := by
  have h1 := h.1
  unfold OwnSt at h1
  rw [← h.2.1] at h1
  exact Reads.of_own h1
/-- A caller's append, as the iterator wants it. -/
theorem KpO.of_append {g : Nat} {W w2 : World} {o : Obj} {v v' : Value} (h1 : W.cell? ⟨g, 0, none⟩ = some v) (G : (W.alloc o).grownBy w2 v.ownBlock) (hl : LiesIn (W.alloc o) v v') (hne : v.ownBlock ≠ some g) : KpO g W (w2.setCell ⟨g, 0, none⟩ v') := by
  have hlt : g < W.heap.size := block_lt_of_cell h1
  have hr : outRow g W = v.ownBlock := by unfold outRow; rw [h1]
  have h2 : w2.cell? ⟨g, 0, none⟩ = some v := by
    have hb : w2.heap[g]? = W.heap[g]? := (G.block g (by simp; omega) (fun e => hne e.symm)).trans (Below.heap_alloc W o g hlt)
    exact (World.cell?_of_block (a := ⟨g, 0, none⟩) hb).trans h1
  have hs := only_set1 w2 g 0 v'
  refine ⟨Nat.le_trans (Nat.le_succ _) (Nat.le_trans (by have := G.size; rw [World.size_alloc] at this; exact this) hs.size), fun k u hk hc hk1 hk2 => ?_, ?_⟩
  · have hkl := (Array.getElem?_eq_some_iff.1 hk).1
    rw [hr] at hk2
    exact ((hs.block k (Nat.lt_of_lt_of_le hkl (Nat.le_trans (Nat.le_succ _) (by have := G.size; rw [World.size_alloc] at this; exact this))) (fun e => hk1 (by injection e))).trans (G.block k (by rw [World.size_alloc]; omega) hk2)).trans ((Below.heap_alloc W o k hkl).trans hk)
  · have e : outRow g (w2.setCell ⟨g, 0, none⟩ v') = v'.ownBlock := by
      unfold outRow
      rw [World.cell?_setCell_same' _ _ _ (by rw [h2]; rfl)]
    rw [e, hr]
    rcases hl with hl | ⟨q, hl, hq⟩
    · exact .inl hl
    · exact .inr ⟨q, hl, by rw [World.size_alloc] at hq; omega⟩
/-- 'append(out, m)' inside a fence. -/
theorem wpListIn_append_mut {F : Fence} {n' : Nat} {ops : Array Oper} {rest : List Oper} {o : Oper} {a : Act} {Q : Exit → Act → World → Prop} (w : World) (x : Mut) (A : Option Addr) (n c : Nat) (u : Array Value) (hu : u = mutC x (.slice A n c)) (hgd : o.guard = none) (s y : Operand)
    (ho : o.op = .call { callee := .builtin .append, args := #[s, y], argTypes := #[40, 40] }) (base lo : Nat) (v : Value) (M : List Mut) (hs : a.eval s = v) (hown : OwnM w base lo v M)
    (hr : Reads w w.heap.size 3 A n (x.ov.flatMap sc)) (hne : ∀ ad, A = some ad → v.ownBlock ≠ some ad.block) (hlt : ∀ ad, A = some ad → lo ≤ ad.block ∧ ad.block < w.heap.size) (hz : n ≤ 1000000000 ∧ (A = none → c = 0))
    (hx : a.eval y = .slice (some ⟨w.heap.size, 0, none⟩) 1 1) (hlen : M.length ≤ 1000000000) (hbase : base ≤ w.heap.size)
    (h : ∀ v' w', OwnM w' base lo v' (M ++ [x]) → (w.alloc (.cells u 33)).grownBy w' v.ownBlock → LiesIn (w.alloc (.cells u 33)) v v' → wpListIn F n' Try.prog ops Q rest (a.put o.dst v') w') : wpListIn F n' Try.prog ops Q (o :: rest) a (w.alloc (.cells u 33)) := by
  obtain ⟨i0, hi, hz0, hz1, hz2⟩ := info_parts info_mut
  obtain ⟨L, hL, h1, h2, h3, h4⟩ := hown.row
  have hll : L.length = M.length := by rw [← hL, List.length_map]
  refine wpListIn_plain hgd fun K hK => ?_
  obtain ⟨v', w', hrun, g1, g2, g3⟩ := run_append_any (P := Try.prog) (w.alloc (.cells u 33)) base 40 o.type 33 i0 (.agg #[.int .i64 0, .int .i64 0, .string ⟨#[]⟩, .string ⟨#[]⟩, .string ⟨#[]⟩, .int .i64 0, .int .i64 0, .int .i64 0, .int .i64 0, .slice none 0 0]) 10 120 Try.underlying40 hi hz0 hz1 hz2 rfl (by decide) v L.length (L.flatMap mutL) (World.ownsRow.alloc h1 _) _ _ 1 1 (mutL ⟨x, A, n, c⟩) (reads_new w 33 10 u _ (by rw [hu]; rfl) rfl) (mutL_one _) (by unfold maxLen; omega) (by omega) (by simp; omega)
  have g3' : LiesIn (w.alloc (.cells u 33)) v v' := by
    rcases g3 with g3 | g3
    · exact .inl g3
    · exact .inr ⟨_, g3, by simp⟩
  have hq := h v' w' ⟨L ++ [⟨x, A, n, c⟩], by simp [hL], by rw [flat_snoc, List.length_append]; exact g1, by
    have ba : Below w.heap.size w (w.alloc (.cells u 33)) := (Below.refl _ _).alloc (Nat.le_refl _) _
    have hs1 := Hangs.snoc (e := (⟨x, A, n, c⟩ : MutS)) h2 hr hne
    refine (Hangs.moved (hs1.below ba) g2 g3' ?_)
    intro e he ad hA
    rw [World.size_alloc]
    rcases List.mem_append.1 he with he | he
    · exact Nat.lt_succ_of_lt (h4 e he ad hA).2
    · rw [List.mem_singleton.1 he] at hA
      exact Nat.lt_succ_of_lt (hlt ad hA).2, by
    intro e he
    rcases List.mem_append.1 he with he | he
    · exact h3 e he
    · rw [List.mem_singleton.1 he]
      exact hz, by
    intro e he ad hA
    have hs9 : w.heap.size ≤ w'.heap.size := Nat.le_trans (by rw [World.size_alloc]; omega) g2.size
    rcases List.mem_append.1 he with he | he
    · exact ⟨(h4 e he ad hA).1, Nat.lt_of_lt_of_le (h4 e he ad hA).2 hs9⟩
    · rw [List.mem_singleton.1 he] at hA
      exact ⟨(hlt ad hA).1, Nat.lt_of_lt_of_le (hlt ad hA).2 hs9⟩⟩ g2 g3'
  unfold Oper.wpIn
  refine ⟨?_, ?_⟩
  · simp [Oper.about, ho, resolve, Target.leads, Sem.run_pure]
  · rw [Oper.semAt_plain F _ _ (by rw [ho]; intro c hc'; cases hc')]
    simp [execOp, ho, resolve, invoke, builtin, hs, hx, hrun, Result.andThen]
    exact hK _ _ hq
/-- A row of hints that the call owns, each with a row of its own. -/
structure OwnHs (w : World) (base lo : Nat) (v : Value) (L : List HintS) : Prop where
  own : OwnH w base v L
  hang : HangH w v.ownBlock L
  ok : ∀ h ∈ L, okH h
  low : ∀ h ∈ L, ∀ ad, h.e.A = some ad → lo ≤ ad.block ∧ ad.block < w.heap.size
theorem OwnHs.nil_ (w : World) (base lo : Nat) : OwnHs w base lo (.slice none 0 0) [] := ⟨World.ownsRow_nil _ _ _ _, Hangs.nil_, fun _ h => (by cases h), fun _ h => (by cases h)⟩
theorem OwnHs.below {w w' : World} {base lo : Nat} {v : Value} {L : List HintS} (h : OwnHs w base lo v L) (b : Below w.heap.size w w') : OwnHs w' base lo v L :=
  ⟨own_below h.own b, h.hang.below b, h.ok, fun x hx ad ha => ⟨(h.low x hx ad ha).1, Nat.lt_of_lt_of_le (h.low x hx ad ha).2 b.size⟩⟩
theorem OwnHs.kept {w w' : World} {base lo : Nat} {v : Value} {L : List HintS} {row : Option Nat} (h : OwnHs w base lo v L) (hg : w.grownBy w' row) (hr : ∀ r, row = some r → ∃ o : Obj, w.heap[r]? = some o ∧ o.isCells = false) : OwnHs w' base lo v L :=
  ⟨World.ownsRow.kept h.own hg (turn_ne h.own hr), fun e he => ⟨reads_kept (by decide) (h.hang e he).1 hg hr, (h.hang e he).2⟩, h.ok, fun e he ad hA => ⟨(h.low e he ad hA).1, Nat.lt_of_lt_of_le (h.low e he ad hA).2 hg.size⟩⟩
theorem OwnHs.set_ {w : World} {base lo g : Nat} {v u : Value} {L : List HintS} (h : OwnHs w base lo v L) (hg : g < base) (hl : g < lo) : OwnHs (w.setCell ⟨g, 0, none⟩ u) base lo v L := by
  have hs := only_set1 w g 0 u
  exact ⟨own_set1 h.own hg 0 u, Hangs.other h.hang hs (fun e he ad ha e2 => by injection e2 with e2; have := (h.low e he ad ha).1; omega), h.ok, fun x hx ad ha => ⟨(h.low x hx ad ha).1, Nat.lt_of_lt_of_le (h.low x hx ad ha).2 hs.size⟩⟩
/-- 'append(out, h)' inside a fence. -/
theorem wpListIn_append_hint {F : Fence} {n' : Nat} {ops : Array Oper} {rest : List Oper} {o : Oper} {a : Act} {Q : Exit → Act → World → Prop} (w : World) (x0 : HintS) (u : Array Value) (hu : u.toList = hintL x0) (hgd : o.guard = none) (s y : Operand)
    (ho : o.op = .call { callee := .builtin .append, args := #[s, y], argTypes := #[24, 24] }) (base lo : Nat) (v : Value) (L : List HintS) (hs : a.eval s = v) (hown : OwnHs w base lo v L)
    (hE : OwnHx w lo x0) (hne : ∀ ad, x0.e.A = some ad → v.ownBlock ≠ some ad.block)
    (hx : a.eval y = .slice (some ⟨w.heap.size, 0, none⟩) 1 1) (hlen : L.length ≤ 1000000) (hbase : base ≤ w.heap.size)
    (h : ∀ v' w', OwnHs w' base lo v' (L ++ [x0]) → (w.alloc (.cells u 45)).grownBy w' v.ownBlock → LiesIn (w.alloc (.cells u 45)) v v' → wpListIn F n' Try.prog ops Q rest (a.put o.dst v') w') : wpListIn F n' Try.prog ops Q (o :: rest) a (w.alloc (.cells u 45)) := by
  obtain ⟨i0, hi, hz0, hz1, hz2⟩ := info_parts info_hint
  refine wpListIn_plain hgd fun K hK => ?_
  obtain ⟨v', w', hrun, g1, g2, g3⟩ := run_append_any (P := Try.prog) (w.alloc (.cells u 45)) base 24 o.type 45 i0 (.agg #[.int .i64 0, .int .i64 0, .int .i64 0, .int .i64 0, .string ⟨#[]⟩, .string ⟨#[]⟩, .string ⟨#[]⟩, .int .i64 0, .int .i64 0, .int .i64 0, .int .i64 0, .slice none 0 0]) 12 136 Try.underlying24 hi hz0 hz1 hz2 rfl (by decide) v L.length (L.flatMap hintL) (World.ownsRow.alloc hown.own _) _ _ 1 1 (hintL x0) (reads_new w 45 12 u _ hu rfl) (hint_one _) (by unfold maxLen; omega) (by omega) (by simp; omega)
  have g3' : LiesIn (w.alloc (.cells u 45)) v v' := by
    rcases g3 with g3 | g3
    · exact .inl g3
    · exact .inr ⟨_, g3, by simp⟩
  have hlt : ∀ ad, x0.e.A = some ad → lo ≤ ad.block ∧ ad.block < w.heap.size := fun ad hA => World.ownsRow.lt hE.1 ad.block (by rw [hA]; rfl)
  have hs9 : w.heap.size ≤ w'.heap.size := Nat.le_trans (by rw [World.size_alloc]; omega) g2.size
  have hq := h v' w' ⟨by unfold OwnH; rw [List.flatMap_append, List.length_append]; simpa using g1, by
    have ba : Below w.heap.size w (w.alloc (.cells u 45)) := (Below.refl _ _).alloc (Nat.le_refl _) _
    have hs1 := Hangs.snoc (e := x0) hown.hang hE.rd hne
    refine (Hangs.moved (hs1.below ba) g2 g3' ?_)
    intro e he ad hA
    rw [World.size_alloc]
    rcases List.mem_append.1 he with he | he
    · exact Nat.lt_succ_of_lt (hown.low e he ad hA).2
    · rw [List.mem_singleton.1 he] at hA
      exact Nat.lt_succ_of_lt (hlt ad hA).2, by
    intro e he
    rcases List.mem_append.1 he with he | he
    · exact hown.ok e he
    · rw [List.mem_singleton.1 he]
      exact hE.2.2, by
    intro e he ad hA
    rcases List.mem_append.1 he with he | he
    · exact ⟨(hown.low e he ad hA).1, Nat.lt_of_lt_of_le (hown.low e he ad hA).2 hs9⟩
    · rw [List.mem_singleton.1 he] at hA
      exact ⟨(hlt ad hA).1, Nat.lt_of_lt_of_le (hlt ad hA).2 hs9⟩⟩ g2 g3'
  unfold Oper.wpIn
  refine ⟨?_, ?_⟩
  · simp [Oper.about, ho, resolve, Target.leads, Sem.run_pure]
  · rw [Oper.semAt_plain F _ _ (by rw [ho]; intro c hc'; cases hc')]
    simp [execOp, ho, resolve, invoke, builtin, hs, hx, hrun, Result.andThen]
    exact hK _ _ hq

/-- What the loop that collects keeps. -/
def AllI (w : World) (g5 B : Nat) (pre : List HintS) (W : World) : Prop :=
  (∃ v, W.cell? ⟨g5, 0, none⟩ = some v ∧ W.frozen? ⟨g5, 0, none⟩ = false ∧ OwnHs W B B v pre) ∧ Below w.heap.size w W ∧ B ≤ W.heap.size
/-- What the law's all hands back. -/
def AllE (w : World) (H : List HintP) (e : Ending) (w' : World) : Prop :=
  ∃ A n c L, e = .returned (.slice A n c) ∧ L.map hp = H ∧ L.length = n ∧ Reads w' w'.heap.size 12 A n (L.flatMap hintL) ∧ HangH w' none L ∧ (∀ x ∈ L, okH x) ∧ Below w.heap.size w w'

set_option maxRecDepth 100000 in
set_option maxHeartbeats 2000000 in
theorem law28_all (gs base : Nat) (v : Value) (L : List HintS) (w : World) (hS : StH w gs base v L) (hn : L.length ≤ 1000) :
    Calls Try.prog 10 #[.pointer (some ⟨gs, 0, none⟩)] w (AllE w (L.map hp)) := by
  refine (callsIn_wide (n := 6)).1 ?_
  refine callsIn_of_wp_marks Try.func10 rfl trivial ?_ rfl
  simp only [Try.ntmps10, List.size_toArray, List.length_cons, List.length_nil, Nat.reduceAdd, Nat.reduceSub, Array.replicate_succ, Array.replicate_zero, List.push_toArray, List.append_toArray, List.nil_append, List.cons_append]
  obtain ⟨W1, hW1⟩ : ∃ W1, w.alloc (.cells #[.slice none 0 0] 24) = W1 := ⟨_, rfl⟩
  have B5 := Blk.new w 24 #[.slice none 0 0]
  rw [hW1] at B5
  have s1 : W1.heap.size = w.heap.size + 1 := by rw [← hW1]; simp
  have b1 : Below w.heap.size w W1 := by rw [← hW1]; exact (Below.refl _ _).alloc (Nat.le_refl _) _
  obtain ⟨W0, hW0⟩ : ∃ W0, W1.alloc (.cells #[.pointer (some ⟨gs, 0, none⟩)] 23) = W0 := ⟨_, rfl⟩
  have Bb := Blk.new W1 23 #[.pointer (some ⟨gs, 0, none⟩)]
  rw [hW0, s1] at Bb
  have s0 : W0.heap.size = w.heap.size + 2 := by rw [← hW0]; simp [s1]
  have b0 : Below w.heap.size w W0 := by rw [← hW0]; exact b1.alloc (by omega) _
  have B50 : Blk W0 w.heap.size 24 #[.slice none 0 0] := by rw [← hW0]; exact B5.alloc _
  have hS0 := hS.below b0
  have hlow := hS.low
  have HA := Lib.hid (hint_All gs W1)
  rw [hW0, s1] at HA
  have HST := Lib.hid (hints_stops 5 (w.heap.size + 1) gs base w.heap.size w.heap.size v L W0 Bb hS0 hn ⟨Nat.le_refl _, by omega⟩ (by unfold outRow; rw [B50.cell 0]; rfl) hlow)
  have HB0 := Lib.hid b0
  clear hS hS0 hlow b0 b1 hW0 Bb B5
  gi_wp2
  refine ⟨trivial, ?_⟩
  refine (callsIn_wide.2 HA.out).mono ?_
  rintro e W0 ⟨rfl, rfl⟩
  have hq := fun w f x y => run_eql_func_nil (P := Try.prog) w 66 _ _ _ f x y Try.underlying66
  gi_wp2
  clear hq HA
  refine wpIn_rangeH (n := 6) (α := HintS) (w := W0) (encs := fun x : HintS => #[.agg (hintC x)]) (G := fun x W => OwnHx W W0.heap.size x) (Kp := KpO w.heap.size) (gf := 53) (lb := #[.pointer (some ⟨w.heap.size + 1, 0, none⟩)]) rfl (enters_of Try.func53 (by kernel_rfl) rfl)
    HST.out (fun _ => by rfl) (fun h k => h.trans k) (fun W l o o' h1 h2 h3 h4 => KpO.putObj (n0 := W0.heap.size) W l o o' h1 (by omega) h2 h3)
    (AllI w w.heap.size W0.heap.size) (fun _ _ _ => False)
    ?hI (fun _ _ _ _ _ hs _ _ => hs)
    ⟨⟨_, B50.cell 0, B50.frozen 0, OwnHs.nil_ _ _ _⟩, HB0.out, Nat.le_refl _⟩
    (fun x a' W => ∃ gm : Nat, a' = { tmps := #[.pointer (some ⟨gs, 0, none⟩), undef, .slice none 0 0, .pointer (some ⟨w.heap.size, 0, none⟩), .func (.func 53) #[] #[.pointer (some ⟨w.heap.size + 1, 0, none⟩)], .pointer (some ⟨gm, 0, none⟩), .pointer (some ⟨gs, 0, none⟩), .func (.func 53) #[] #[.pointer (some ⟨w.heap.size + 1, 0, none⟩)], .func (.func 53) #[] #[.pointer (some ⟨w.heap.size + 1, 0, none⟩)], .bool false, .func (.func 53) #[] #[.pointer (some ⟨w.heap.size + 1, 0, none⟩)], .agg (hintC x), undef, undef, undef, undef, undef], defers := [] } ∧ W0.heap.size ≤ gm ∧ Blk W gm 45 (hintC x) ∧ OwnHx W W0.heap.size x)
    ?hAx ?assign ?body ?done ?stop
  case hI =>
    rintro pre W W' row ⟨⟨v, h1, h2, h3⟩, h5, h6⟩ hg hrow
    have hne : ∀ r, row = some r → ∃ o : Obj, W.heap[r]? = some o ∧ o.isCells = false := fun r e => (hrow r e).2
    exact ⟨⟨v, cell_kept h1 hg hne, (frozen_kept h1 hg hne).trans h2, h3.kept hg hne⟩, ownFrom_below (β := Unit) (Nat.le_refl _) (B := W0.heap.size) (by omega) () W W' row h5 hg hrow, Nat.le_trans h6 hg.size⟩
  case hAx =>
    rintro x a' _ W W' row ⟨gm, rfl, h1, h2, h3⟩ hg hrow
    have hne : ∀ r, row = some r → ∃ o : Obj, W.heap[r]? = some o ∧ o.isCells = false := fun r e => (hrow r e).2
    refine ⟨gm, rfl, h1, ?_, h3.kept hg hne⟩
    refine (hg.block gm h2.lt (fun e => ?_)).trans h2
    obtain ⟨o, ho, hc⟩ := hne gm e.symm
    have h2' : W.heap[gm]? = some (.cells (hintC x) 45 (0, 0)) := h2
    rw [h2'] at ho
    injection ho with ho
    subst ho
    cases hc
  case assign =>
    rintro l pre x W K ⟨⟨v, h1, h2, h3⟩, h5, h6⟩ hG hK
    have bw : Below W.heap.size W (W.alloc (.cells (hintC x) 45)) := (Below.refl _ W).alloc (Nat.le_refl _) _
    have hk := hK _ _ ((KeepsOthers.alloc W (.cells (hintC x) 45)).from _) (KpO.of_below bw (by omega)) ⟨⟨v, (bw.cell (p := ⟨w.heap.size, 0, none⟩) (block_lt_of_cell h1)).trans h1, (bw.frozen (p := ⟨w.heap.size, 0, none⟩) (block_lt_of_cell h1)).trans h2, h3.below bw⟩, h5.trans (bw.mono (by omega)), Nat.le_trans h6 bw.size⟩ ⟨W.heap.size, rfl, h6, Blk.new W _ _, hG.below bw⟩
    unfold hintC at hk
    have HK := Lib.hid hk
    clear hK hk h1 h2 h3 h5 hG bw
    unfold hintC
    gi_wp2
    exact HK.out
  case body =>
    rintro lp pre x a' W ⟨⟨v, h1, h2, h3⟩, h5, hW0'⟩ ⟨gm, rfl, hgm, bm, hE⟩ hlen
    obtain ⟨Av, cv, rfl, -, -, -⟩ := own_form h3.own
    have m0 : W.cell? ⟨gm, 0, none⟩ = some (.int .i64 x.to) := bm.cell 0
    have m1 : W.cell? ⟨gm, 1, none⟩ = some (.int .i64 x.until_) := bm.cell 1
    have m2 : W.cell? ⟨gm, 2, none⟩ = some (.int .i64 x.e.m.tab) := bm.cell 2
    have m3 : W.cell? ⟨gm, 3, none⟩ = some (.int .i64 x.e.m.kind) := bm.cell 3
    have m4 : W.cell? ⟨gm, 4, none⟩ = some (.string x.e.m.key) := bm.cell 4
    have m5 : W.cell? ⟨gm, 5, none⟩ = some (.string x.e.m.en) := bm.cell 5
    have m6 : W.cell? ⟨gm, 6, none⟩ = some (.string x.e.m.val) := bm.cell 6
    have m7 : W.cell? ⟨gm, 7, none⟩ = some (.int .i64 x.e.m.exp) := bm.cell 7
    have m8 : W.cell? ⟨gm, 8, none⟩ = some (.int .i64 x.e.m.at_.1) := bm.cell 8
    have m9 : W.cell? ⟨gm, 9, none⟩ = some (.int .i64 x.e.m.at_.2.1) := bm.cell 9
    have m10 : W.cell? ⟨gm, 10, none⟩ = some (.int .i64 x.e.m.at_.2.2) := bm.cell 10
    have m11 : W.cell? ⟨gm, 11, none⟩ = some (.slice x.e.A x.e.n x.e.c) := bm.cell 11
    have H3 := Lib.hid h3
    have HE := Lib.hid hE
    have hpl : pre.length ≤ 1000000 := by omega
    have HNE : Hid (∀ ad, x.e.A = some ad → (Value.slice Av pre.length cv).ownBlock ≠ some ad.block) := Lib.hid (fun ad hA e => by
      rcases own_apart h3.own hE.1 (by decide) with h | h
      · rw [h] at e; cases e
      · exact h (e.trans (by rw [hA]; rfl)))
    have HK3 : Hid (∀ u w2, (W.alloc (.cells u 45)).grownBy w2 (Value.slice Av pre.length cv).ownBlock → KeepsOthers W w2) := Lib.hid (fun u w2 hg => (KeepsOthers.alloc W _).trans (keeps_of_own (World.ownsRow.alloc h3.own _) hg))
    have HL3 : Hid (∀ q, (Value.slice Av pre.length cv).ownBlock = some q → W0.heap.size ≤ q ∧ q < W.heap.size) := Lib.hid (World.ownsRow.lt h3.own)
    have hne3 : (Value.slice Av pre.length cv).ownBlock ≠ some w.heap.size := fun e => by have := (HL3.out _ e).1; omega
    have HNE3 := Lib.hid hne3
    have HC1 := Lib.hid h1
    clear h3 hE bm hne3
    unfold hintC
    gi_wp2_with (gi_at_builtin; go_must (refine wpListIn_append_hint W x _ rfl rfl _ _ rfl W0.heap.size W0.heap.size _ pre rfl H3.out HE.out HNE.out rfl hpl hW0' ?_); intro v' w2 O2 G2 L2; (obtain ⟨A2, c2, rfl, -, -, -⟩ := own_form O2.own); (have hne : ∀ q, (Value.slice Av pre.length cv).ownBlock = some q → w.heap.size < q := fun q hq => by have := (HL3.out q hq).1; omega); (obtain ⟨k2, f2⟩ := box_kept h1 G2 hne); (rw [h2] at f2); (have hKP := KpO.of_append HC1.out G2 L2 HNE3.out); (generalize (pre ++ [x]).length = n2 at O2 L2 hKP ⊢))
    have hkp : Below w.heap.size W (w2.setCell ⟨w.heap.size, 0, none⟩ (.slice A2 n2 c2)) :=
      (Below.grown ((Below.refl w.heap.size W).alloc h5.size _) G2 (by rw [World.size_alloc]; have := h5.size; omega) (fun q hq => by have := (HL3.out q hq).1; omega)).setCell (p := ⟨w.heap.size, 0, none⟩) (Nat.le_refl _) _
    refine ⟨((HK3.out _ _ G2).trans (KeepsOthers.setCell _ _ _)).from _, hKP, ⟨_, World.cell?_setCell_same' _ _ _ (by rw [k2]; rfl), by rw [World.frozen?_setCell]; exact f2, O2.set_ (by omega) (by omega)⟩, h5.trans hkp, Nat.le_trans hW0' (by have := G2.size; rw [World.size_alloc] at this; have h9 := (only_set1 w2 w.heap.size 0 (.slice A2 n2 c2)).size; omega)⟩
  case done =>
    rintro D xs W hD hS ⟨⟨v, h1, h2, h3⟩, h5, h6⟩ hK
    have hne : ∀ r, some D = some r → ∃ o : Obj, W.heap[r]? = some o ∧ o.isCells = false := fun r e => by injection e with e; subst e; exact ⟨_, hK, rfl⟩
    obtain ⟨Av, cv, rfl, -, -, -⟩ := own_form h3.own
    have H3 := Lib.hid h3
    have HS := Lib.hid hS
    obtain ⟨n1, hn1⟩ : ∃ n1, xs.length = n1 := ⟨_, rfl⟩
    rw [hn1] at h1
    have HN1 := Lib.hid hn1
    clear h3 hS hn1
    gi_wp2
    refine ⟨by simp, .inl ⟨_, _, rfl, run_takeDeferred hK, ?_⟩⟩
    have gp := grownBy_putObj' W D (.deferred none)
    have h7 := H3.out.kept gp hne
    refine ⟨_, results_tmp rfl _ _ _, Av, n1, cv, xs, rfl, HS.out, HN1.out, ?_, h7.hang.free, h7.ok, h5.trans (belowK_b (n₀ := w.heap.size) (w := w) (Nat.le_refl _) W D _ _ (by omega) hK rfl rfl)⟩
    have h8 := Reads.of_own h7.own
    rw [HN1.out] at h8
    exact h8
  case stop =>
    rintro D c pre W _ _ h _
    exact h.elim

/-- The mutations of those for a node. -/
def forP (to : Int) (L : List HintS) : List Mut := (L.filter fun x => decide (x.to = to)).map fun x => x.e.m
theorem forP_snoc (to : Int) (L : List HintS) (x : HintS) : forP to (L ++ [x]) = if x.to = to then forP to L ++ [x.e.m] else forP to L := by
  unfold forP
  rw [List.filter_append]
  by_cases h : x.to = to
  · simp [h]
  · simp [h]
theorem forP_len (to : Int) (L : List HintS) : (forP to L).length ≤ L.length := by
  unfold forP
  rw [List.length_map]
  exact List.length_filter_le _ _
theorem forP_of (to : Int) (L : List HintS) : forP to L = ((L.map hp).filter fun x => decide (x.to = to)).map fun x => x.m := by
  unfold forP
  rw [List.filter_map, List.map_map]
  rfl
/-- What the loop that collects keeps. -/
def ForI (w : World) (g5 B : Nat) (to : Int) (pre : List HintS) (W : World) : Prop :=
  (∃ v, W.cell? ⟨g5, 0, none⟩ = some v ∧ W.frozen? ⟨g5, 0, none⟩ = false ∧ OwnM W B B v (forP to pre)) ∧ W.cell? ⟨w.heap.size, 0, none⟩ = some (.int .i64 to) ∧ Below w.heap.size w W ∧ B ≤ W.heap.size
theorem OwnM.set_ {w : World} {base lo g : Nat} {v u : Value} {M : List Mut} (h : OwnM w base lo v M) (hg : g < base) (hl : g < lo) : OwnM (w.setCell ⟨g, 0, none⟩ u) base lo v M := h.grown_g (only_set1 w g 0 u) hg hl

set_option maxRecDepth 100000 in
set_option maxHeartbeats 2000000 in
theorem hint_For (gs base : Nat) (v : Value) (L : List HintS) (to : Int) (w : World) (hS : StH w gs base v L) (hn : L.length ≤ 1000) :
    Calls Try.prog 28 #[.pointer (some ⟨gs, 0, none⟩), .int .i64 to] w fun e w' => ∃ v', e = .returned v' ∧ OwnM w' w.heap.size w.heap.size v' (forP to L) ∧ Below w.heap.size w w' := by
  refine (callsIn_wide (n := 6)).1 ?_
  refine callsIn_of_wp_marks Try.func28 rfl trivial ?_ rfl
  simp only [Try.ntmps28, List.size_toArray, List.length_cons, List.length_nil, Nat.reduceAdd, Nat.reduceSub, Array.replicate_succ, Array.replicate_zero, List.push_toArray, List.append_toArray, List.nil_append, List.cons_append]
  obtain ⟨W1, hW1⟩ : ∃ W1, (w.alloc (.cells #[.int .i64 to] 3)).alloc (.cells #[.slice none 0 0] 40) = W1 := ⟨_, rfl⟩
  have B3 := (Blk.new w 3 #[.int .i64 to]).alloc (.cells #[.slice none 0 0] 40)
  have B5 := Blk.new (w.alloc (.cells #[.int .i64 to] 3)) 40 #[.slice none 0 0]
  rw [World.size_alloc] at B5
  rw [hW1] at B5 B3
  have s1 : W1.heap.size = w.heap.size + 2 := by rw [← hW1]; simp
  have b1 : Below w.heap.size w W1 := by rw [← hW1]; exact ((Below.refl _ _).alloc (Nat.le_refl _) _).alloc (by simp) _
  obtain ⟨W0, hW0⟩ : ∃ W0, W1.alloc (.cells #[.pointer (some ⟨gs, 0, none⟩)] 23) = W0 := ⟨_, rfl⟩
  have Bb := Blk.new W1 23 #[.pointer (some ⟨gs, 0, none⟩)]
  rw [hW0, s1] at Bb
  have s0 : W0.heap.size = w.heap.size + 3 := by rw [← hW0]; simp [s1]
  have b0 : Below w.heap.size w W0 := by rw [← hW0]; exact b1.alloc (by omega) _
  have B50 : Blk W0 (w.heap.size + 1) 40 #[.slice none 0 0] := by rw [← hW0]; exact B5.alloc _
  have B30 : Blk W0 w.heap.size 3 #[.int .i64 to] := by rw [← hW0]; exact B3.alloc _
  have hS0 := hS.below b0
  have hlow := hS.low
  have HA := Lib.hid (hint_All gs W1)
  rw [hW0, s1] at HA
  have HST := Lib.hid (hints_stops 5 (w.heap.size + 2) gs base (w.heap.size + 1) w.heap.size v L W0 Bb hS0 hn ⟨by omega, by omega⟩ (by unfold outRow; rw [B50.cell 0]; rfl) hlow)
  have HB0 := Lib.hid b0
  clear hS hS0 hlow b0 b1 hW0 Bb B5 B3
  gi_wp2
  refine ⟨trivial, ?_⟩
  refine (callsIn_wide.2 HA.out).mono ?_
  rintro e W0 ⟨rfl, rfl⟩
  gi_wp2
  clear HA
  refine wpIn_rangeH (n := 6) (α := HintS) (w := W0) (encs := fun x : HintS => #[.agg (hintC x)]) (G := fun x W => OwnHx W W0.heap.size x) (Kp := KpO (w.heap.size + 1)) (gf := 53) (lb := #[.pointer (some ⟨w.heap.size + 2, 0, none⟩)]) rfl (enters_of Try.func53 (by kernel_rfl) rfl)
    HST.out (fun _ => by rfl) (fun h k => h.trans k) (fun W l o o' h1 h2 h3 h4 => KpO.putObj (n0 := W0.heap.size) W l o o' h1 (by omega) h2 h3)
    (ForI w (w.heap.size + 1) W0.heap.size to) (fun _ _ _ => False)
    ?hI (fun _ _ _ _ _ hs _ _ => hs)
    ⟨⟨_, B50.cell 0, B50.frozen 0, OwnM.nil_ _ _ _⟩, B30.cell 0, HB0.out, Nat.le_refl _⟩
    (fun x a' W => ∃ gm : Nat, a' = { tmps := #[.pointer (some ⟨gs, 0, none⟩), .int .i64 to, undef, .pointer (some ⟨w.heap.size, 0, none⟩), .slice none 0 0, .pointer (some ⟨w.heap.size + 1, 0, none⟩), .pointer (some ⟨gm, 0, none⟩), .pointer (some ⟨gs, 0, none⟩), .func (.func 53) #[] #[.pointer (some ⟨w.heap.size + 2, 0, none⟩)], .agg (hintC x), undef, undef, undef, undef, undef, undef, undef, undef, undef, undef], defers := [] } ∧ W0.heap.size ≤ gm ∧ Blk W gm 45 (hintC x) ∧ OwnHx W W0.heap.size x)
    ?hAx ?assign ?body ?done ?stop
  case hI =>
    rintro pre W W' row ⟨⟨v, h1, h2, h3⟩, h4, h5, h6⟩ hg hrow
    have hne : ∀ r, row = some r → ∃ o : Obj, W.heap[r]? = some o ∧ o.isCells = false := fun r e => (hrow r e).2
    exact ⟨⟨v, cell_kept h1 hg hne, (frozen_kept h1 hg hne).trans h2, OwnM.kept h3 hg hne⟩, cell_kept h4 hg hne, ownFrom_below (β := Unit) (Nat.le_refl _) (B := W0.heap.size) (by omega) () W W' row h5 hg hrow, Nat.le_trans h6 hg.size⟩
  case hAx =>
    rintro x a' _ W W' row ⟨gm, rfl, h1, h2, h3⟩ hg hrow
    have hne : ∀ r, row = some r → ∃ o : Obj, W.heap[r]? = some o ∧ o.isCells = false := fun r e => (hrow r e).2
    refine ⟨gm, rfl, h1, ?_, h3.kept hg hne⟩
    refine (hg.block gm h2.lt (fun e => ?_)).trans h2
    obtain ⟨o, ho, hc⟩ := hne gm e.symm
    have h2' : W.heap[gm]? = some (.cells (hintC x) 45 (0, 0)) := h2
    rw [h2'] at ho
    injection ho with ho
    subst ho
    cases hc
  case assign =>
    rintro l pre x W K ⟨⟨v, h1, h2, h3⟩, h4, h5, h6⟩ hG hK
    have bw : Below W.heap.size W (W.alloc (.cells (hintC x) 45)) := (Below.refl _ W).alloc (Nat.le_refl _) _
    have hk := hK _ _ ((KeepsOthers.alloc W (.cells (hintC x) 45)).from _) (KpO.of_below bw (by omega)) ⟨⟨v, (bw.cell (p := ⟨w.heap.size + 1, 0, none⟩) (block_lt_of_cell h1)).trans h1, (bw.frozen (p := ⟨w.heap.size + 1, 0, none⟩) (block_lt_of_cell h1)).trans h2, h3.below bw⟩, (bw.cell (p := ⟨w.heap.size, 0, none⟩) (block_lt_of_cell h4)).trans h4, h5.trans (bw.mono (by omega)), Nat.le_trans h6 bw.size⟩ ⟨W.heap.size, rfl, h6, Blk.new W _ _, hG.below bw⟩
    unfold hintC at hk
    have HK := Lib.hid hk
    clear hK hk h1 h2 h3 h4 h5 hG bw
    unfold hintC
    gi_wp2
    exact HK.out
  case body =>
    rintro lp pre x a' W ⟨⟨v, h1, h2, h3⟩, h4, h5, hW0'⟩ ⟨gm, rfl, hgm, bm, hE⟩ hlen
    obtain ⟨M, hM⟩ : ∃ M, forP to pre = M := ⟨_, rfl⟩
    have hpl : M.length ≤ 1000000000 := by rw [← hM]; have := forP_len to pre; omega
    have hsn := forP_snoc to pre x
    rw [hM] at h3 hsn
    have HM := Lib.hid hM
    have HSN := Lib.hid hsn
    clear hM hsn
    obtain ⟨Av, cv, rfl, -, -, -⟩ := h3.rd
    have m0 : W.cell? ⟨gm, 0, none⟩ = some (.int .i64 x.to) := bm.cell 0
    have m1 : W.cell? ⟨gm, 1, none⟩ = some (.int .i64 x.until_) := bm.cell 1
    have m2 : W.cell? ⟨gm, 2, none⟩ = some (.int .i64 x.e.m.tab) := bm.cell 2
    have m3 : W.cell? ⟨gm, 3, none⟩ = some (.int .i64 x.e.m.kind) := bm.cell 3
    have m4 : W.cell? ⟨gm, 4, none⟩ = some (.string x.e.m.key) := bm.cell 4
    have m5 : W.cell? ⟨gm, 5, none⟩ = some (.string x.e.m.en) := bm.cell 5
    have m6 : W.cell? ⟨gm, 6, none⟩ = some (.string x.e.m.val) := bm.cell 6
    have m7 : W.cell? ⟨gm, 7, none⟩ = some (.int .i64 x.e.m.exp) := bm.cell 7
    have m8 : W.cell? ⟨gm, 8, none⟩ = some (.int .i64 x.e.m.at_.1) := bm.cell 8
    have m9 : W.cell? ⟨gm, 9, none⟩ = some (.int .i64 x.e.m.at_.2.1) := bm.cell 9
    have m10 : W.cell? ⟨gm, 10, none⟩ = some (.int .i64 x.e.m.at_.2.2) := bm.cell 10
    have m11 : W.cell? ⟨gm, 11, none⟩ = some (.slice x.e.A x.e.n x.e.c) := bm.cell 11
    have H3 := Lib.hid h3
    have HE := Lib.hid hE
    have HER := Lib.hid hE.rd
    have HZ : Hid (x.e.n ≤ 1000000000 ∧ (x.e.A = none → x.e.c = 0)) := Lib.hid hE.2.2
    have HNE : Hid (∀ ad, x.e.A = some ad → (Value.slice Av M.length cv).ownBlock ≠ some ad.block) := Lib.hid (fun ad hA e => by
      obtain ⟨L, _, q1, _⟩ := h3.row
      rcases own_apart q1 hE.1 (by decide) with h | h
      · rw [h] at e; cases e
      · exact h (e.trans (by rw [hA]; rfl)))
    have HLT : Hid (∀ ad, x.e.A = some ad → W0.heap.size ≤ ad.block ∧ ad.block < W.heap.size) := Lib.hid (fun ad hA => World.ownsRow.lt hE.1 ad.block (by rw [hA]; rfl))
    have HK3 : Hid (∀ u w2, (W.alloc (.cells u 33)).grownBy w2 (Value.slice Av M.length cv).ownBlock → KeepsOthers W w2) := Lib.hid (fun u w2 hg => by
      obtain ⟨L, _, q1, _⟩ := h3.row
      exact (KeepsOthers.alloc W _).trans (keeps_of_own (World.ownsRow.alloc q1 _) hg))
    have HL3 := Lib.hid h3.lt
    have hne3 : (Value.slice Av M.length cv).ownBlock ≠ some (w.heap.size + 1) := fun e => by have := (HL3.out _ e).1; omega
    have HNE3 := Lib.hid hne3
    have HC1 := Lib.hid h1
    clear h3 hE bm hne3
    by_cases hto : x.to = to
    · have hd : (x.to == to) = true := by simp [hto]
      have HX : Hid (forP to (pre ++ [x]) = M ++ [x.e.m]) := Lib.hid (by rw [HSN.out, if_pos hto])
      clear hto
      unfold hintC
      gi_wp2_with (gi_at_builtin; go_must (refine wpListIn_append_mut W x.e.m x.e.A x.e.n x.e.c _ (by unfold mutC; simp) rfl _ _ rfl W0.heap.size W0.heap.size _ M rfl H3.out HER.out HNE.out HLT.out HZ.out rfl hpl hW0' ?_); intro v' w2 O2 G2 L2; (obtain ⟨A2, c2, rfl, -, -, -⟩ := O2.rd); (have hne : ∀ q, (Value.slice Av M.length cv).ownBlock = some q → w.heap.size + 1 < q := fun q hq => by have := (HL3.out q hq).1; omega); (obtain ⟨k2, f2⟩ := box_kept h1 G2 hne); (have hne0 : ∀ q, (Value.slice Av M.length cv).ownBlock = some q → w.heap.size < q := fun q hq => by have := (HL3.out q hq).1; omega); (obtain ⟨k4, -⟩ := box_kept h4 G2 hne0); (rw [h2] at f2); (have hKP := KpO.of_append HC1.out G2 L2 HNE3.out); (generalize (M ++ [x.e.m]).length = n2 at O2 L2 hKP ⊢))
      have hkp : Below w.heap.size W (w2.setCell ⟨w.heap.size + 1, 0, none⟩ (.slice A2 n2 c2)) :=
        (Below.grown ((Below.refl w.heap.size W).alloc h5.size _) G2 (by rw [World.size_alloc]; have := h5.size; omega) (fun q hq => by have := (HL3.out q hq).1; omega)).setCell (p := ⟨w.heap.size + 1, 0, none⟩) (show w.heap.size ≤ w.heap.size + 1 by omega) _
      refine ⟨((HK3.out _ _ G2).trans (KeepsOthers.setCell _ _ _)).from _, hKP, ⟨_, World.cell?_setCell_same' _ _ _ (by rw [k2]; rfl), by rw [World.frozen?_setCell]; exact f2, by rw [HX.out]; exact O2.set_ (by omega) (by omega)⟩, (World.cell?_of_block (a := ⟨w.heap.size, 0, none⟩) ((only_set1 w2 (w.heap.size + 1) 0 (.slice A2 n2 c2)).block w.heap.size (block_lt_of_cell k4) (fun e => by injection e with e; omega))).trans k4, h5.trans hkp, Nat.le_trans hW0' (by have := G2.size; rw [World.size_alloc] at this; have h9 := (only_set1 w2 (w.heap.size + 1) 0 (.slice A2 n2 c2)).size; omega)⟩
    · have hd : (x.to == to) = false := by simp [hto]
      have HX : Hid (forP to (pre ++ [x]) = M) := Lib.hid (by rw [HSN.out, if_neg hto])
      clear hto
      unfold hintC
      gi_wp2
      exact ⟨(KeepsOthers.refl W).from _, KpO.of_below (Below.refl _ _) (by omega), ⟨_, HC1.out, h2, by rw [HX.out]; exact H3.out⟩, h4, h5, hW0'⟩
  case done =>
    rintro D xs W hD hS ⟨⟨v, h1, h2, h3⟩, h4, h5, h6⟩ hK
    have hne : ∀ r, some D = some r → ∃ o : Obj, W.heap[r]? = some o ∧ o.isCells = false := fun r e => by injection e with e; subst e; exact ⟨_, hK, rfl⟩
    have hS' : forP to xs = forP to L := by
      have hS2 : xs.map hp = L.map hp := hS
      rw [forP_of, forP_of, hS2]
    rw [hS'] at h3
    obtain ⟨Av, cv, rfl, -, -, -⟩ := h3.rd
    have H3 := Lib.hid h3
    clear h3 hS hS'
    gi_wp2
    refine ⟨by simp, .inl ⟨_, _, rfl, run_takeDeferred hK, ?_⟩⟩
    have gp := grownBy_putObj' W D (.deferred none)
    exact ⟨_, results_tmp rfl _ _ _, _, rfl, ((OwnM.kept H3.out gp hne).base_le (by omega)).lo_le (by omega), h5.trans (belowK_b (n₀ := w.heap.size) (w := w) (Nat.le_refl _) W D _ _ (by omega) hK rfl rfl)⟩
  case stop =>
    rintro D c pre W _ _ h _
    exact h.elim
end Go.Proofs.Ytfkooohnaodjmaa
