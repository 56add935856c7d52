/- Contract of the law's from: what a tree's iterator hands out, collected. -/
import Derived.Test.YthbhbechemnidaaDoorMemX
import Derived.Test.YthbhbechemnidaaDoorMutM
namespace Go.Proofs.YthbhbechemnidaaDoor
open Go.RowKit Go.Sort Go.Shelf
attribute [local go_sem] Oper.semAt_some

theorem turn_ne {W : World} {base size n : Nat} {e : TypeId} {v : Value} {xs : List Value} {row : Option Nat} (h : W.ownsRow base e size v n xs) (hr : ∀ r, row = some r → ∃ o : Obj, W.heap[r]? = some o ∧ o.isCells = false) : v.ownBlock = none ∨ v.ownBlock ≠ row := by
  rcases h.2 with ⟨hv, _⟩ | ⟨g, cap, cur, hv, _, hh, _⟩
  · left; rw [hv]; rfl
  · right
    intro e
    rw [hv] at e
    obtain ⟨o, ho, hc⟩ := hr g (by rw [← e]; rfl)
    rw [hh] at ho
    injection ho with ho
    subst ho
    cases hc
theorem keeps_of_own {W W' : World} {base size n : Nat} {e : TypeId} {v : Value} {xs : List Value} (h : W.ownsRow base e size v n xs) (hg : W.grownBy W' v.ownBlock) : KeepsOthers W W' :=
  ⟨hg.size, fun k o hk ho => (hg.block k (Array.getElem?_eq_some_iff.1 hk).1 (fun e => by
    rcases h.2 with ⟨hv, _⟩ | ⟨g, cap, cur, hv, _, hh, _⟩
    · rw [hv] at e; cases e
    · rw [hv] at e
      have e : k = g := by simpa [Value.ownBlock] using e
      subst e
      rw [hh] at hk
      injection hk with hk
      subst hk
      cases ho)).trans hk⟩
/-- Rows of other element types lie in other blocks. -/
theorem own_apart {W : World} {b1 b2 s1 s2 n1 n2 : Nat} {e1 e2 : TypeId} {v1 v2 : Value} {x1 x2 : List Value} (h1 : W.ownsRow b1 e1 s1 v1 n1 x1) (h2 : W.ownsRow b2 e2 s2 v2 n2 x2) (he : e1 ≠ e2) : v1.ownBlock = none ∨ v1.ownBlock ≠ v2.ownBlock := by
  rcases h1.2 with ⟨hv, _⟩ | ⟨g, cap, cur, hv, _, hh, _⟩
  · left; rw [hv]; rfl
  · right
    intro e
    rw [hv] at e
    rcases h2.2 with ⟨hv2, _⟩ | ⟨g2, cap2, cur2, hv2, _, hh2, _⟩
    · rw [hv2] at e; cases e
    · rw [hv2] at e
      have e : g = g2 := by simpa [Value.ownBlock] using e
      subst e
      rw [hh] at hh2
      injection hh2 with hh2
      injection hh2 with _ ht
      exact he ht
theorem run_equalIn_func_nil {P : Program} (w : World) (d : Nat) (t : TypeId) (a : Array TypeId) (b : Array TypeId) (c : Bool) (f : Fn) (x y : Array Value) (h : P.underlying t = some (.func a b c)) : (Op.equalIn (d + 1) t (.func f x y) .nilFunc).run P w = .ok false w := by
  simp [Op.equalIn, run_underlying h]
theorem run_eql_func_nil {P : Program} (w : World) (t : TypeId) (a : Array TypeId) (b : Array TypeId) (c : Bool) (f : Fn) (x y : Array Value) (h : P.underlying t = some (.func a b c)) : (binOp .eql t (.func f x y) .nilFunc).run P w = .ok (.bool false) w := by
  simp only [binOp]
  simp [Op.equal, Op.maxDepth, run_equalIn_func_nil w 9999 t a b c f x y h]
theorem box_kept {W w2 : World} {o : Obj} {g : Nat} {v : Value} {row : Option Nat} (h1 : W.cell? ⟨g, 0, none⟩ = some v) (hG : (W.alloc o).grownBy w2 row) (hne : ∀ q, row = some q → g < q) : w2.cell? ⟨g, 0, none⟩ = some v ∧ w2.frozen? ⟨g, 0, none⟩ = W.frozen? ⟨g, 0, none⟩ := by
  have hlt : g < W.heap.size := block_lt_of_cell h1
  have hb : w2.heap[g]? = W.heap[g]? := (hG.block g (by simp; omega) (fun e => by have := hne _ e.symm; omega)).trans (Below.heap_alloc W o g hlt)
  exact ⟨(World.cell?_of_block (a := ⟨g, 0, none⟩) hb).trans h1, by unfold World.frozen?; rw [hb]⟩

/-- A block that is no cells was turned: a row that reads still reads. -/
theorem reads_kept {w w' : World} {row : Option Nat} {k n : Nat} {A : Option Addr} {xs : List Value} (hk : 0 < k) (h : Reads w w.heap.size k A n xs) (hg : w.grownBy w' row) (hr : ∀ r, row = some r → ∃ o : Obj, w.heap[r]? = some o ∧ o.isCells = false) : Reads w' w'.heap.size k A n xs := by
  refine ⟨h.1, fun h0 => ?_⟩
  obtain ⟨ad, hA, hb, hc⟩ := h.2 h0
  have hl : 0 < xs.length := by rw [h.1]; exact Nat.mul_pos h0 hk
  have h1 := hg.block ad.block hb (fun e => by
    obtain ⟨o, ho, hno⟩ := hr _ e.symm
    have := hc 0 _ (List.getElem?_eq_getElem hl)
    unfold World.cell? at this
    rw [block_of_add, ho] at this
    cases o <;> first | (cases hno; done) | (simp at this))
  refine ⟨ad, hA, Nat.lt_of_lt_of_le hb hg.size, fun j u hu => ?_⟩
  rw [← hc j u hu]
  exact World.cell?_of_block (by rw [block_of_add]; exact h1)
theorem OwnM.kept {w w' : World} {base lo : Nat} {v : Value} {M : List Mut} {row : Option Nat} (h : OwnM w base lo v M) (hg : w.grownBy w' row) (hr : ∀ r, row = some r → ∃ o : Obj, w.heap[r]? = some o ∧ o.isCells = false) : OwnM w' base lo v M := by
  obtain ⟨L, rfl, h1, h2, h3, h4⟩ := h.row
  exact ⟨L, rfl, World.ownsRow.kept h1 hg (turn_ne h1 hr), fun e he => ⟨reads_kept (by decide) (h2 e he).1 hg hr, (h2 e he).2⟩, h3, fun e he ad hA => ⟨(h4 e he ad hA).1, Nat.lt_of_lt_of_le (h4 e he ad hA).2 hg.size⟩⟩
theorem OwnM.lo_le {w : World} {base lo lo' : Nat} {v : Value} {M : List Mut} (h : OwnM w base lo v M) (hb : lo' ≤ lo) : OwnM w base lo' v M := by
  obtain ⟨L, rfl, h1, h2, h3, h4⟩ := h.row
  exact ⟨L, rfl, h1, h2, h3, fun e he ad hA => ⟨Nat.le_trans hb (h4 e he ad hA).1, (h4 e he ad hA).2⟩⟩
theorem OwnE.kept {w w' : World} {lo : Nat} {e : MutS} {row : Option Nat} (h : OwnE w lo e) (hg : w.grownBy w' row) (hr : ∀ r, row = some r → ∃ o : Obj, w.heap[r]? = some o ∧ o.isCells = false) : OwnE w' lo e :=
  ⟨World.ownsRow.kept h.1 hg (turn_ne h.1 hr), h.2⟩

/-- 'append(out, m)' inside a fence. -/
theorem wpListIn_append_mut {F : Fence} {n' : Nat} {ops : Array Oper} {rest : List Oper} {o : Oper} {a : Act} {Q : Exit → Act → World → Prop} (w : World) (x : Mut) (A : Option Addr) (n c : Nat) (u : Array Value) (hu : u = mutC x (.slice A n c)) (hgd : o.guard = none) (s y : Operand)
    (ho : o.op = .call { callee := .builtin .append, args := #[s, y], argTypes := #[22, 22] }) (base lo : Nat) (v : Value) (M : List Mut) (hs : a.eval s = v) (hown : OwnM w base lo v M)
    (hr : Reads w w.heap.size 3 A n (x.ov.flatMap sc)) (hne : ∀ ad, A = some ad → v.ownBlock ≠ some ad.block) (hlt : ∀ ad, A = some ad → lo ≤ ad.block ∧ ad.block < w.heap.size) (hz : n ≤ 1000000000 ∧ (A = none → c = 0))
    (hx : a.eval y = .slice (some ⟨w.heap.size, 0, none⟩) 1 1) (hlen : M.length ≤ 1000000000) (hbase : base ≤ w.heap.size)
    (h : ∀ v' w', OwnM w' base lo v' (M ++ [x]) → (w.alloc (.cells u 35)).grownBy w' v.ownBlock → wpListIn F n' Tryd.prog ops Q rest (a.put o.dst v') w') : wpListIn F n' Tryd.prog ops Q (o :: rest) a (w.alloc (.cells u 35)) := by
  obtain ⟨i0, hi, hz0, hz1, hz2⟩ := info_parts info_mut
  obtain ⟨L, hL, h1, h2, h3, h4⟩ := hown.row
  have hll : L.length = M.length := by rw [← hL, List.length_map]
  refine wpListIn_plain hgd fun K hK => ?_
  obtain ⟨v', w', hrun, g1, g2, g3⟩ := run_append_any (P := Tryd.prog) (w.alloc (.cells u 35)) base 22 o.type 35 i0 (.agg #[.int .i64 0, .int .i64 0, .string ⟨#[]⟩, .string ⟨#[]⟩, .string ⟨#[]⟩, .int .i64 0, .int .i64 0, .int .i64 0, .int .i64 0, .slice none 0 0]) 10 120 Tryd.underlying22 hi hz0 hz1 hz2 rfl (by decide) v L.length (L.flatMap mutL) (World.ownsRow.alloc h1 _) _ _ 1 1 (mutL ⟨x, A, n, c⟩) (reads_new w 35 10 u _ (by rw [hu]; rfl) rfl) (mutL_one _) (by unfold maxLen; omega) (by omega) (by simp; omega)
  have g3' : LiesIn (w.alloc (.cells u 35)) v v' := by
    rcases g3 with g3 | g3
    · exact .inl g3
    · exact .inr ⟨_, g3, by simp⟩
  have hq := h v' w' ⟨L ++ [⟨x, A, n, c⟩], by simp [hL], by rw [flat_snoc, List.length_append]; exact g1, by
    have ba : Below w.heap.size w (w.alloc (.cells u 35)) := (Below.refl _ _).alloc (Nat.le_refl _) _
    have hs1 := Hangs.snoc (e := (⟨x, A, n, c⟩ : MutS)) h2 hr hne
    refine (Hangs.moved (hs1.below ba) g2 g3' ?_)
    intro e he ad hA
    rw [World.size_alloc]
    rcases List.mem_append.1 he with he | he
    · exact Nat.lt_succ_of_lt (h4 e he ad hA).2
    · rw [List.mem_singleton.1 he] at hA
      exact Nat.lt_succ_of_lt (hlt ad hA).2, by
    intro e he
    rcases List.mem_append.1 he with he | he
    · exact h3 e he
    · rw [List.mem_singleton.1 he]
      exact hz, by
    intro e he ad hA
    have hs9 : w.heap.size ≤ w'.heap.size := Nat.le_trans (by rw [World.size_alloc]; omega) g2.size
    rcases List.mem_append.1 he with he | he
    · exact ⟨(h4 e he ad hA).1, Nat.lt_of_lt_of_le (h4 e he ad hA).2 hs9⟩
    · rw [List.mem_singleton.1 he] at hA
      exact ⟨(hlt ad hA).1, Nat.lt_of_lt_of_le (hlt ad hA).2 hs9⟩⟩ g2
  unfold Oper.wpIn
  refine ⟨?_, ?_⟩
  · simp [Oper.about, ho, resolve, Target.leads, Sem.run_pure]
  · rw [Oper.semAt_plain F _ _ (by rw [ho]; intro c hc'; cases hc')]
    simp [execOp, ho, resolve, invoke, builtin, hs, hx, hrun, Result.andThen]
    exact hK _ _ hq
/-- What the loop that collects keeps. -/
def FromI (w : World) (g5 B : Nat) (pre : List MutS) (W : World) : Prop :=
  (∃ v, W.cell? ⟨g5, 0, none⟩ = some v ∧ W.frozen? ⟨g5, 0, none⟩ = false ∧ OwnM W B B v (pre.map (·.m))) ∧ Below w.heap.size w W ∧ B ≤ W.heap.size

set_option maxRecDepth 100000 in
set_option maxHeartbeats 2000000 in
theorem law13_from (h k : Nat) (key : ByteArray) (t : TT) (w : World) (hb : Blk w h 27 #[.pointer t.adr, .int .i64 k]) (ht : t.In w w.heap.size) (hm : (t.from_ key).length ≤ 1000001) :
    Calls Tryd.prog 19 #[.pointer (some ⟨h, 0, none⟩), .string key] w fun e w' => ∃ v, e = .returned v ∧ OwnM w' w.heap.size w.heap.size v (t.from_ key) ∧ Below w.heap.size w w' := by
  refine (callsIn_wide (n := 6)).1 ?_
  refine callsIn_of_wp_marks Tryd.func19 rfl trivial ?_ rfl
  simp only [Tryd.ntmps19, List.size_toArray, List.length_cons, List.length_nil, Nat.reduceAdd, Nat.reduceSub, Array.replicate_succ, Array.replicate_zero, List.push_toArray, List.append_toArray, List.nil_append, List.cons_append]
  obtain ⟨W1, hW1⟩ : ∃ W1, w.alloc (.cells #[.slice none 0 0] 22) = W1 := ⟨_, rfl⟩
  have B5 := Blk.new w 22 #[.slice none 0 0]
  have s1 : W1.heap.size = w.heap.size + 1 := by rw [← hW1]; simp
  have Bt := (Blk.new W1 24 #[.pointer (some ⟨h, 0, none⟩)]).alloc (.cells #[.string key] 9)
  have Bk := Blk.new (W1.alloc (.cells #[.pointer (some ⟨h, 0, none⟩)] 24)) 9 #[.string key]
  rw [World.size_alloc] at Bk
  have hB : Below w.heap.size w ((W1.alloc (.cells #[.pointer (some ⟨h, 0, none⟩)] 24)).alloc (.cells #[.string key] 9)) := by
    rw [← hW1]
    exact (((Below.refl _ _).alloc (Nat.le_refl _) _).alloc (by simp) _).alloc (by simp; omega) _
  rw [hW1] at B5
  replace B5 := (B5.alloc (.cells #[.pointer (some ⟨h, 0, none⟩)] 24)).alloc (.cells #[.string key] 9)
  have hs0 : ((W1.alloc (.cells #[.pointer (some ⟨h, 0, none⟩)] 24)).alloc (.cells #[.string key] 9)).heap.size = w.heap.size + 3 := by simp [s1]
  have hl := hb.lt
  have hb0 := hb.below hB hl
  have ht0 := ht.below hB
  clear hb ht
  gi_wp2
  refine ⟨trivial, ?_⟩
  refine (callsIn_wide.2 (tree_From h key W1)).mono ?_
  rintro e w' ⟨rfl, rfl⟩
  generalize (W1.alloc (.cells #[.pointer (some ⟨h, 0, none⟩)] 24)).alloc (.cells #[.string key] 9) = W0 at *
  rw [s1] at *
  have hq := fun w f x y => run_eql_func_nil (P := Tryd.prog) w 82 _ _ _ f x y Tryd.underlying82
  gi_wp2
  have HST := from_stops 5 (w.heap.size + 1) (w.heap.size + 1 + 1) h W0.heap.size w.heap.size key t k W0 (by omega) Bt Bk hl hb0 ht0 (Nat.le_refl _) hm
  refine wpIn_rangeH (n := 6) (α := MutS) (w := W0) (encs := fun x : MutS => #[.agg (mutC x.m (.slice x.A x.n x.c))]) (G := fun x W => OwnE W W0.heap.size x) (Kp := fun W W' => Below w.heap.size W W') (gf := 103) (lb := #[.pointer (some ⟨w.heap.size + 1, 0, none⟩), .pointer (some ⟨w.heap.size + 1 + 1, 0, none⟩)]) rfl (enters_of Tryd.func103 (by kernel_rfl) rfl)
    HST (fun _ => by rfl) (fun h k => h.trans k) (fun W l o o' h1 h2 h3 h4 => belowK_b (n₀ := w.heap.size) (w := W0) (by omega) W l o o' h1 h2 h3 h4)
    (FromI w w.heap.size W0.heap.size) (fun _ _ _ => False)
    ?hI (fun _ _ _ _ _ hs _ _ => hs)
    ⟨⟨_, B5.cell 0, B5.frozen 0, OwnM.nil_ _ _ _⟩, hB, Nat.le_refl _⟩
    (fun x a' W => ∃ gm : Nat, a' = { tmps := #[.pointer (some ⟨h, 0, none⟩), .string key, undef, undef, .slice none 0 0, .pointer (some ⟨w.heap.size, 0, none⟩), .func (.func 103) #[] #[.pointer (some ⟨w.heap.size + 1, 0, none⟩), .pointer (some ⟨w.heap.size + 1 + 1, 0, none⟩)], .pointer (some ⟨gm, 0, none⟩), .pointer (some ⟨h, 0, none⟩), .string key, .func (.func 103) #[] #[.pointer (some ⟨w.heap.size + 1, 0, none⟩), .pointer (some ⟨w.heap.size + 1 + 1, 0, none⟩)], .func (.func 103) #[] #[.pointer (some ⟨w.heap.size + 1, 0, none⟩), .pointer (some ⟨w.heap.size + 1 + 1, 0, none⟩)], .bool false, .func (.func 103) #[] #[.pointer (some ⟨w.heap.size + 1, 0, none⟩), .pointer (some ⟨w.heap.size + 1 + 1, 0, none⟩)], .agg (mutC x.m (.slice x.A x.n x.c)), undef, undef, undef, undef, undef], defers := [] } ∧ W0.heap.size ≤ gm ∧ Blk W gm 35 (mutC x.m (.slice x.A x.n x.c)) ∧ OwnE W W0.heap.size x)
    ?hAx ?assign ?body ?done ?stop
  case hI =>
    rintro pre W W' row ⟨⟨v, h1, h2, h3⟩, h5, h6⟩ hg hrow
    have hne : ∀ r, row = some r → ∃ o : Obj, W.heap[r]? = some o ∧ o.isCells = false := fun r e => (hrow r e).2
    exact ⟨⟨v, cell_kept h1 hg hne, (frozen_kept h1 hg hne).trans h2, OwnM.kept h3 hg hne⟩, ownFrom_below (β := Unit) (Nat.le_refl _) (B := W0.heap.size) (by omega) () W W' row h5 hg hrow, Nat.le_trans h6 hg.size⟩
  case hAx =>
    rintro x a' _ W W' row ⟨gm, rfl, h1, h2, h3⟩ hg hrow
    have hne : ∀ r, row = some r → ∃ o : Obj, W.heap[r]? = some o ∧ o.isCells = false := fun r e => (hrow r e).2
    refine ⟨gm, rfl, h1, ?_, h3.kept hg hne⟩
    refine (hg.block gm h2.lt (fun e => ?_)).trans h2
    obtain ⟨o, ho, hc⟩ := hne gm e.symm
    have h2' : W.heap[gm]? = some (.cells (mutC x.m (.slice x.A x.n x.c)) 35) := h2
    rw [h2'] at ho
    injection ho with ho
    subst ho
    cases hc
  case assign =>
    rintro l pre x W K ⟨⟨v, h1, h2, h3⟩, h5, h6⟩ hG hK
    have ba : Below w.heap.size W (W.alloc (.cells (mutC x.m (.slice x.A x.n x.c)) 35)) := (Below.refl _ W).alloc (by omega) _
    have bw : Below W.heap.size W (W.alloc (.cells (mutC x.m (.slice x.A x.n x.c)) 35)) := (Below.refl _ W).alloc (Nat.le_refl _) _
    have hk := hK _ _ ((KeepsOthers.alloc W (.cells (mutC x.m (.slice x.A x.n x.c)) 35)).from _) ba ⟨⟨v, (bw.cell (p := ⟨w.heap.size, 0, none⟩) (block_lt_of_cell h1)).trans h1, (bw.frozen (p := ⟨w.heap.size, 0, none⟩) (block_lt_of_cell h1)).trans h2, h3.below bw⟩, h5.trans ba, Nat.le_trans h6 bw.size⟩ ⟨W.heap.size, rfl, h6, Blk.new W _ _, hG.below bw⟩
    unfold mutC at hk
    have HK := Lib.hid hk
    clear hK hk h1 h2 h3 h5 hG ba bw
    unfold mutC
    gi_wp2
    exact HK.out
  case body =>
    rintro lp pre x a' W ⟨⟨v, h1, h2, h3⟩, h5, hW0⟩ ⟨gm, rfl, hgm, bm, hE⟩ hlen
    obtain ⟨M, hM⟩ : ∃ M, pre.map (·.m) = M := ⟨_, rfl⟩
    have hpl : M.length ≤ 1000000000 := by rw [← hM, List.length_map]; omega
    have hMx : (pre ++ [x]).map (·.m) = M ++ [x.m] := by rw [List.map_append, hM]; rfl
    have HM := Lib.hid hMx
    rw [hM] at h3
    clear hM hMx
    obtain ⟨Av, cv, rfl, -, -, -⟩ := h3.rd
    have m0 : W.cell? ⟨gm, 0, none⟩ = some (.int .i64 x.m.tab) := bm.cell 0
    have m1 : W.cell? ⟨gm, 1, none⟩ = some (.int .i64 x.m.kind) := bm.cell 1
    have m2 : W.cell? ⟨gm, 2, none⟩ = some (.string x.m.key) := bm.cell 2
    have m3 : W.cell? ⟨gm, 3, none⟩ = some (.string x.m.en) := bm.cell 3
    have m4 : W.cell? ⟨gm, 4, none⟩ = some (.string x.m.val) := bm.cell 4
    have m5 : W.cell? ⟨gm, 5, none⟩ = some (.int .i64 x.m.exp) := bm.cell 5
    have m6 : W.cell? ⟨gm, 6, none⟩ = some (.int .i64 x.m.at_.1) := bm.cell 6
    have m7 : W.cell? ⟨gm, 7, none⟩ = some (.int .i64 x.m.at_.2.1) := bm.cell 7
    have m8 : W.cell? ⟨gm, 8, none⟩ = some (.int .i64 x.m.at_.2.2) := bm.cell 8
    have m9 : W.cell? ⟨gm, 9, none⟩ = some (.slice x.A x.n x.c) := bm.cell 9
    have H3 := Lib.hid h3
    have HEr := Lib.hid hE.rd
    have HZ : Hid (x.n ≤ 1000000000 ∧ (x.A = none → x.c = 0)) := Lib.hid hE.2.2
    have HNE : Hid (∀ ad, x.A = some ad → (Value.slice Av M.length cv).ownBlock ≠ some ad.block) := Lib.hid (fun ad hA e => by
      obtain ⟨L, _, q1, _⟩ := h3.row
      rcases own_apart q1 hE.1 (by decide) with h | h
      · rw [h] at e; cases e
      · exact h (e.trans (by rw [hA]; rfl)))
    have HLT : Hid (∀ ad, x.A = some ad → W0.heap.size ≤ ad.block ∧ ad.block < W.heap.size) := Lib.hid (fun ad hA => World.ownsRow.lt hE.1 ad.block (by rw [hA]; rfl))
    have HK3 : Hid (∀ u w2, (W.alloc (.cells u 35)).grownBy w2 (Value.slice Av M.length cv).ownBlock → KeepsOthers W w2) := Lib.hid (fun u w2 hg => by
      obtain ⟨L, _, q1, _⟩ := h3.row
      exact (KeepsOthers.alloc W _).trans (keeps_of_own (World.ownsRow.alloc q1 _) hg))
    have HL3 := Lib.hid h3.lt
    clear h3 hE bm
    unfold mutC
    gi_wp2_with (gi_at_builtin; go_must (refine wpListIn_append_mut W x.m x.A x.n x.c _ (by unfold mutC; simp) rfl _ _ rfl W0.heap.size W0.heap.size _ M rfl H3.out HEr.out HNE.out HLT.out HZ.out rfl hpl hW0 ?_); intro v' w2 O2 G2; (obtain ⟨A2, c2, rfl, -, -, -⟩ := O2.rd); (have hne : ∀ q, (Value.slice Av M.length cv).ownBlock = some q → w.heap.size < q := fun q hq => by have := (HL3.out q hq).1; omega); (obtain ⟨k2, f2⟩ := box_kept h1 G2 hne); (rw [h2] at f2))
    have gs := only_set1 w2 w.heap.size 0 (.slice A2 (M.length + 1) c2)
    have hlM : (M ++ [x.m]).length = M.length + 1 := by simp
    have hkp : Below w.heap.size W (w2.setCell ⟨w.heap.size, 0, none⟩ (.slice A2 (M.length + 1) c2)) :=
      (Below.grown ((Below.refl w.heap.size W).alloc h5.size _) G2 (by rw [World.size_alloc]; have := h5.size; omega) (fun q hq => by have := (HL3.out q hq).1; omega)).setCell (p := ⟨w.heap.size, 0, none⟩) (Nat.le_refl _) _
    rw [← hs0]
    refine ⟨((HK3.out _ _ G2).trans (KeepsOthers.setCell _ _ _)).from _, hkp, ⟨_, World.cell?_setCell_same' _ _ _ (by rw [k2]; rfl), by rw [World.frozen?_setCell]; exact f2, ?_⟩, h5.trans hkp, Nat.le_trans hW0 hkp.size⟩
    rw [HM.out]
    rw [hlM] at O2
    exact O2.grown_g gs (by omega) (by omega)
  case done =>
    rintro D xs W hD hS ⟨⟨v, h1, h2, h3⟩, h5, h6⟩ hK
    have hne : ∀ r, some D = some r → ∃ o : Obj, W.heap[r]? = some o ∧ o.isCells = false := fun r e => by injection e with e; subst e; exact ⟨_, hK, rfl⟩
    have hS' : xs.map (·.m) = t.from_ key := hS
    rw [hS'] at h3
    obtain ⟨Av, cv, rfl, -, -, -⟩ := h3.rd
    have H3 := Lib.hid h3
    clear h3 hS hS'
    gi_wp2
    refine ⟨by simp, .inl ⟨_, _, rfl, run_takeDeferred hK, ?_⟩⟩
    have gp := grownBy_putObj' W D (.deferred none)
    exact ⟨_, results_tmp rfl _ _ _, _, rfl, ((OwnM.kept H3.out gp hne).base_le (by omega)).lo_le (by omega), h5.trans (belowK_b (n₀ := w.heap.size) (w := w) (Nat.le_refl _) W D _ _ (by omega) hK rfl rfl)⟩
  case stop =>
    rintro D c pre W _ _ h _
    exact h.elim
end Go.Proofs.YthbhbechemnidaaDoor
