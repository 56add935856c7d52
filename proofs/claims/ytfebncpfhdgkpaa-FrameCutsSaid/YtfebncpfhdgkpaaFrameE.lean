/- Contracts of the law's all and first, and of frame.Last. -/
import Derived.Test.YtfebncpfhdgkpaaFrameD
import Derived.Test.YtfebncpfhdgkpaaRdr
namespace Go.Proofs.Ytfebncpfhdgkpaa
open Go.RowKit Go.Sort Go.Shelf
attribute [local go_sem] Oper.semAt_some

theorem turn_ne {W : World} {base size n : Nat} {e : TypeId} {v : Value} {xs : List Value} {row : Option Nat} (h : W.ownsRow base e size v n xs) (hr : ∀ r, row = some r → ∃ o : Obj, W.heap[r]? = some o ∧ o.isCells = false) : v.ownBlock = none ∨ v.ownBlock ≠ row := by
  rcases h.2 with ⟨hv, _⟩ | ⟨g, cap, cur, hv, _, hh, _⟩
  · left; rw [hv]; rfl
  · right
    intro e
    rw [hv] at e
    obtain ⟨o, ho, hc⟩ := hr g (by rw [← e]; rfl)
    rw [hh] at ho
    injection ho with ho
    subst ho
    cases hc
theorem keeps_of_own {W W' : World} {base size n : Nat} {e : TypeId} {v : Value} {xs : List Value} (h : W.ownsRow base e size v n xs) (hg : W.grownBy W' v.ownBlock) : KeepsOthers W W' :=
  ⟨hg.size, fun k o hk ho => (hg.block k (Array.getElem?_eq_some_iff.1 hk).1 (fun e => by
    rcases h.2 with ⟨hv, _⟩ | ⟨g, cap, cur, hv, _, hh, _⟩
    · rw [hv] at e; cases e
    · rw [hv] at e
      have e : k = g := by simpa [Value.ownBlock] using e
      subst e
      rw [hh] at hk
      injection hk with hk
      subst hk
      cases ho)).trans hk⟩
/-- Rows of other element types lie in other blocks. -/
theorem own_apart {W : World} {b1 b2 s1 s2 n1 n2 : Nat} {e1 e2 : TypeId} {v1 v2 : Value} {x1 x2 : List Value} (h1 : W.ownsRow b1 e1 s1 v1 n1 x1) (h2 : W.ownsRow b2 e2 s2 v2 n2 x2) (he : e1 ≠ e2) : v1.ownBlock = none ∨ v1.ownBlock ≠ v2.ownBlock := by
  rcases h1.2 with ⟨hv, _⟩ | ⟨g, cap, cur, hv, _, hh, _⟩
  · left; rw [hv]; rfl
  · right
    intro e
    rw [hv] at e
    rcases h2.2 with ⟨hv2, _⟩ | ⟨g2, cap2, cur2, hv2, _, hh2, _⟩
    · rw [hv2] at e; cases e
    · rw [hv2] at e
      have e : g = g2 := by simpa [Value.ownBlock] using e
      subst e
      rw [hh] at hh2
      injection hh2 with hh2
      injection hh2 with _ ht
      exact he ht

/-- append of a slice, inside a fence. -/
theorem wpListIn_append_rec {F : Fence} {n : Nat} {ops : Array Oper} {rest : List Oper} {o : Oper} {a : Act} {Q : Exit → Act → World → Prop} (w : World) (x0 : Rc) (hx0 : x0.1.oneCell' = true) (u : Array Value) (hu : u.toList = [x0.1]) (t : TypeId) (hgd : o.guard = none) (sl x : Operand)
    (ho : o.op = .call { callee := .builtin .append, args := #[sl, x], argTypes := #[45, 45] }) (base : Nat) (v : Value) (rs : List Rc) (hs : a.eval sl = v) (hown : OwnV w base v rs)
    (hx : a.eval x = .slice (some ⟨w.heap.size, 0, none⟩) 1 1) (hlen : rs.length ≤ 1000000000) (hbase : base ≤ w.heap.size)
    (h : ∀ v' w', OwnV w' base v' (rs ++ [x0]) → (w.alloc (.cells u t)).grownBy w' v.ownBlock → wpListIn F n Try.prog ops Q rest (a.put o.dst v') w') :
    wpListIn F n Try.prog ops Q (o :: rest) a (w.alloc (.cells u t)) := by
  obtain ⟨i0, hi, hz0, hz1, hz2⟩ := info_parts info_bytes
  refine wpListIn_plain hgd fun K hK => ?_
  obtain ⟨v', w', hrun, h1, h2, _⟩ := run_append_any (P := Try.prog) (w.alloc (.cells u t)) base 45 o.type 46 i0 (.slice none 0 0) 1 24 Try.underlying45 hi hz0 hz1 hz2 rfl (by decide) v rs.length (rs.map fun x : Rc => x.1) (World.ownsRow.alloc hown _) _ _ 1 1 [x0.1] (reads_new w t 1 u [x0.1] hu rfl) (by intro u hu; simp at hu; subst hu; exact hx0) (by unfold maxLen; omega) (by omega) (by simp; omega)
  have hq := h v' w' (by unfold OwnV; rw [List.map_append, List.length_append]; exact h1) h2
  unfold Oper.wpIn
  refine ⟨?_, ?_⟩
  · simp [Oper.about, ho, resolve, Target.leads, Sem.run_pure]
  · rw [Oper.semAt_plain F _ _ (by rw [ho]; intro c hc'; cases hc')]
    simp [execOp, ho, resolve, invoke, builtin, hs, hx, hrun, Result.andThen]
    exact hK _ _ hq
theorem Own.one {w : World} {base : Nat} {v : Value} {l : List UInt8} (h : Own w base v l) : v.oneCell' = true := by
  rcases h.form with ⟨hv, _⟩ | ⟨g, cap, hv, _⟩ <;> rw [hv] <;> rfl

theorem run_equalIn_func_nil {P : Program} (w : World) (d : Nat) (t : TypeId) (a : Array TypeId) (b : Array TypeId) (c : Bool) (f : Fn) (x y : Array Value) (h : P.underlying t = some (.func a b c)) : (Op.equalIn (d + 1) t (.func f x y) .nilFunc).run P w = .ok false w := by
  simp [Op.equalIn, run_underlying h]
theorem run_eql_func_nil {P : Program} (w : World) (t : TypeId) (a : Array TypeId) (b : Array TypeId) (c : Bool) (f : Fn) (x y : Array Value) (h : P.underlying t = some (.func a b c)) : (binOp .eql t (.func f x y) .nilFunc).run P w = .ok (.bool false) w := by
  simp only [binOp]
  simp [Op.equal, Op.maxDepth, run_equalIn_func_nil w 9999 t a b c f x y h]
theorem box_kept {W w2 : World} {o : Obj} {g : Nat} {v : Value} {row : Option Nat} (h1 : W.cell? ⟨g, 0, none⟩ = some v) (hG : (W.alloc o).grownBy w2 row) (hne : ∀ q, row = some q → g < q) : w2.cell? ⟨g, 0, none⟩ = some v ∧ w2.frozen? ⟨g, 0, none⟩ = W.frozen? ⟨g, 0, none⟩ := by
  have hlt : g < W.heap.size := block_lt_of_cell h1
  have hb : w2.heap[g]? = W.heap[g]? := (hG.block g (by simp; omega) (fun e => by have := hne _ e.symm; omega)).trans (Below.heap_alloc W o g hlt)
  exact ⟨(World.cell?_of_block (a := ⟨g, 0, none⟩) hb).trans h1, by unfold World.frozen?; rw [hb]⟩
theorem frozen_of_block {w w' : World} {p : Addr} (h : w'.heap[p.block]? = w.heap[p.block]?) : w'.frozen? p = w.frozen? p := by
  unfold World.frozen?
  rw [h]
/-- What the loop over the records keeps. -/
def AllI (w : World) (g3 B : Nat) (pre : List Rc) (W : World) : Prop :=
  (∃ v, W.cell? ⟨g3, 0, none⟩ = some v ∧ W.frozen? ⟨g3, 0, none⟩ = false ∧ OwnV W B v pre ∧ (∀ x ∈ pre, Own W B x.1 x.2)) ∧ Below w.heap.size w W ∧ B ≤ W.heap.size

set_option maxRecDepth 100000 in
set_option maxHeartbeats 2000000 in
theorem law12_all (A : Option Addr) (m c : Nat) (l : List UInt8) (w : World) (hr : Reads w w.heap.size 1 A m (l.map vb)) (hmc : m ≤ c) (hm : m ≤ 1000000) :
    Calls Try.prog 31 #[.slice A m c] w fun e w' => ∃ v rs, e = .returned v ∧ OwnV w' w.heap.size v rs ∧ rs.map (fun x : Rc => x.2) = (frA l).1 ∧ (∀ x ∈ rs, Own w' w.heap.size x.1 x.2) ∧ Below w.heap.size w w' := by
  refine (callsIn_wide (n := 6)).1 ?_
  refine callsIn_of_wp_marks Try.func31 rfl trivial ?_ rfl
  simp only [Try.ntmps31, List.size_toArray, List.length_cons, List.length_nil, Nat.reduceAdd, Nat.reduceSub, Array.replicate_succ, Array.replicate_zero, List.push_toArray, List.append_toArray, List.nil_append, List.cons_append]
  have B3 := (Blk.new w 45 #[.slice none 0 0]).alloc (.cells #[.slice A m c] 46)
  have Bg := Blk.new (w.alloc (.cells #[.slice none 0 0] 45)) 46 #[.slice A m c]
  rw [World.size_alloc] at Bg
  have hB : Below w.heap.size w ((w.alloc (.cells #[.slice none 0 0] 45)).alloc (.cells #[.slice A m c] 46)) := ((Below.refl _ _).alloc (Nat.le_refl _) _).alloc (by simp) _
  have hs0 : w.heap.size + 2 ≤ ((w.alloc (.cells #[.slice none 0 0] 45)).alloc (.cells #[.slice A m c] 46)).heap.size := by simp
  have hr0 := hr.below hB
  gi_wp2
  refine ⟨trivial, ?_⟩
  refine (callsIn_wide.2 (frame_All A m c _)).mono ?_
  rintro e w' ⟨rfl, rfl⟩
  rw [World.size_alloc]
  generalize (w.alloc (.cells #[.slice none 0 0] 45)).alloc (.cells #[.slice A m c] 46) = W0 at *
  have hq := fun w f x y => run_eql_func_nil (P := Try.prog) w 106 _ _ _ f x y Try.underlying106
  gi_wp2
  have HST := all_stops 5 (w.heap.size + 1) A m c l W0 w.heap.size (by omega) Bg hr0 hmc hm
  refine wpIn_range (n := 6) (α := Rc) (w := W0) (encs := fun x : Rc => #[x.1]) (G := fun x W => Own W W0.heap.size x.1 x.2) (Kp := fun W W' => Below w.heap.size W W') (gf := 102) (lb := #[.pointer (some ⟨w.heap.size + 1, 0, none⟩)]) rfl (enters_of Try.func102 (by kernel_rfl) rfl)
    HST (fun _ => by rfl) (fun h k => h.trans k) (fun W l o o' h1 h2 h3 h4 => belowK_b (n₀ := w.heap.size) (w := W0) (by omega) W l o o' h1 h2 h3 h4)
    (AllI w w.heap.size W0.heap.size) (fun _ _ _ => False)
    (fun s W W' row h hg hr => Own.kept h hg (turn_ne h (fun r e => (hr r e).2)))
    ?hI (fun _ _ _ _ _ hs _ _ => hs)
    ⟨⟨_, B3.cell 0, B3.frozen 0, OwnV.nil_ _ _, fun x hx => by cases hx⟩, hB, Nat.le_refl _⟩
    (fun x => { tmps := #[.slice A m c, undef, .slice none 0 0, .pointer (some ⟨w.heap.size, 0, none⟩), .func (.func 102) #[] #[.pointer (some ⟨w.heap.size + 1, 0, none⟩)], x.1, .slice A m c, .func (.func 102) #[] #[.pointer (some ⟨w.heap.size + 1, 0, none⟩)], .func (.func 102) #[] #[.pointer (some ⟨w.heap.size + 1, 0, none⟩)], .bool false, .func (.func 102) #[] #[.pointer (some ⟨w.heap.size + 1, 0, none⟩)], x.1, undef, undef, undef, undef, undef], defers := [] }) ?assign ?body ?done ?stop
  case hI =>
    rintro pre W W' row ⟨⟨v, h1, h2, h3, h4⟩, h5, h6⟩ hg hrow
    have hne : ∀ r, row = some r → ∃ o : Obj, W.heap[r]? = some o ∧ o.isCells = false := fun r e => (hrow r e).2
    exact ⟨⟨v, cell_kept h1 hg hne, (frozen_kept h1 hg hne).trans h2, OwnV.kept h3 hg (turn_ne h3 hne), fun x hx => Own.kept (h4 x hx) hg (turn_ne (h4 x hx) hne)⟩, ownFrom_below (β := Unit) (Nat.le_refl _) (B := W0.heap.size) (by omega) () W W' row h5 hg hrow, Nat.le_trans h6 hg.size⟩
  case assign =>
    intro l x W K hK
    gi_wp2
    exact hK
  case body =>
    rintro lp pre ⟨xv, xl⟩ W ⟨⟨v, h1, h2, h3, h4⟩, h5, hW0⟩ hG hlen
    dsimp only at hG
    obtain ⟨Ax, cx, rfl, _, _⟩ := hG.reads
    obtain ⟨Av, cv, rfl, _, _, _⟩ := h3.reads
    have H4 := Lib.hid h4
    clear h4
    gi_wp2_with (gi_at_builtin; go_must (refine wpListIn_append_rec W (.slice Ax xl.length cx, xl) rfl _ rfl _ rfl _ _ rfl W0.heap.size (.slice Av pre.length cv) pre rfl h3 rfl (by omega) hW0 ?_); intro v' w2 O2 G2; (obtain ⟨A2, c2, rfl, hc2, _, _⟩ := O2.reads); (rw [show (pre ++ [(Value.slice Ax xl.length cx, xl)]).length = pre.length + 1 by simp] at O2 ⊢); (have hne : ∀ q, (Value.slice Av pre.length cv).ownBlock = some q → w.heap.size < q := fun q hq => by have := (h3.lt q hq).1; omega); (obtain ⟨k2, f2⟩ := box_kept h1 G2 hne); (rw [h2] at f2))
    have gs := only_set w2 w.heap.size 0 (.slice A2 (pre.length + 1) c2)
    have hkp : Below w.heap.size W (w2.setCell ⟨w.heap.size, 0, none⟩ (.slice A2 (pre.length + 1) c2)) :=
      (Below.grown ((Below.refl w.heap.size W).alloc h5.size _) G2 (by simp; omega) (fun q hq => by have := (h3.lt q hq).1; omega)).setCell (p := ⟨w.heap.size, 0, none⟩) (Nat.le_refl _) _
    have hall : ∀ y : Rc, Own W W0.heap.size y.1 y.2 → Own (w2.setCell ⟨w.heap.size, 0, none⟩ (.slice A2 (pre.length + 1) c2)) W0.heap.size y.1 y.2 := fun y hy =>
      (Own.kept (hy.alloc (.cells #[.slice Ax xl.length cx] 46)) G2 (own_apart (hy.alloc (.cells #[.slice Ax xl.length cx] 46)) (World.ownsRow.alloc h3 (.cells #[.slice Ax xl.length cx] 46)) (by decide))).kept gs (.inr (fun e => by have := (hy.lt _ e).1; omega))
    refine ⟨(((KeepsOthers.alloc W _).trans (keeps_of_own (World.ownsRow.alloc h3 _) G2)).trans (KeepsOthers.setCell _ _ _)).from _, hkp, ⟨_, World.cell?_setCell_same' _ _ _ (by rw [k2]; rfl), by rw [World.frozen?_setCell]; exact f2, OwnV.kept O2 gs (.inr (fun e => by have := (O2.lt _ e).1; omega)), ?_⟩, h5.trans hkp, ?_⟩
    · intro y hy
      rcases List.mem_append.1 hy with hy | hy
      · exact hall y (H4.out y hy)
      · rw [List.mem_singleton] at hy
        subst hy
        exact hall _ hG
    · exact Nat.le_trans hW0 hkp.size
  case done =>
    rintro D xs W hD hS ⟨⟨v, h1, h2, h3, h4⟩, h5, h6⟩ hK
    obtain ⟨Av, cv, rfl, _, _, _⟩ := h3.reads
    have hne : ∀ r, some D = some r → ∃ o : Obj, W.heap[r]? = some o ∧ o.isCells = false := fun r e => by injection e with e; subst e; exact ⟨_, hK, rfl⟩
    have H3 := Lib.hid h3
    have H4 := Lib.hid h4
    clear h3 h4
    gi_wp2
    refine ⟨by simp, .inl ⟨_, _, rfl, run_takeDeferred hK, ?_⟩⟩
    have gp := grownBy_putObj' W D (.deferred none)
    exact ⟨_, results_tmp rfl _ _ _, _, xs, rfl, (OwnV.kept H3.out gp (turn_ne H3.out hne)).base_le (by omega), hS, fun x hx => (Own.kept (H4.out x hx) gp (turn_ne (H4.out x hx) hne)).base_le (by omega), h5.trans (belowK_b (n₀ := w.heap.size) (w := w) (Nat.le_refl _) W D _ _ (by omega) hK rfl rfl)⟩
  case stop =>
    rintro D c pre W _ _ h _
    exact h.elim
end Go.Proofs.Ytfebncpfhdgkpaa
