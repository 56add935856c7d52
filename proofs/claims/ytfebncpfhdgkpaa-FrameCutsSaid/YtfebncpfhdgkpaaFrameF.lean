/- Contracts of the law's first and of frame.Last. -/
import Derived.Test.YtfebncpfhdgkpaaFrameE
import Derived.Sort.QuietTacIn
namespace Go.Proofs.Ytfebncpfhdgkpaa
open Go.RowKit Go.Sort Go.Shelf
attribute [local go_sem] Oper.semAt_some

theorem own_turn {W W' : World} {B : Nat} {v : Value} {l : List UInt8} {row : Option Nat} (h : Own W B v l) (hg : W.grownBy W' row) (hr : ∀ r, row = some r → ∃ o : Obj, W.heap[r]? = some o ∧ o.isCells = false) : Own W' B v l := Own.kept h hg (turn_ne h hr)
theorem own_box {W : World} {B g i : Nat} {u v : Value} {l : List UInt8} (h : Own W B v l) (hg : g < B) : Own (W.setCell ⟨g, i, none⟩ u) B v l := Own.kept h (only_set W g i u) (.inr (fun e => by have := (h.lt g e).1; omega))

def FirstI (w : World) (g B : Nat) (pre : List Rc) (W : World) : Prop := (pre = [] ∧ W.cell? ⟨g, 0, none⟩ = some (.slice none 0 0) ∧ W.frozen? ⟨g, 0, none⟩ = false) ∧ Below w.heap.size w W ∧ B ≤ W.heap.size
def FirstX (w : World) (g B : Nat) (c : Code) (pre : List Rc) (W : World) : Prop := (c = .ret ∧ ∃ x, pre = [x] ∧ W.cell? ⟨g, 0, none⟩ = some x.1 ∧ Own W B x.1 x.2) ∧ Below w.heap.size w W ∧ B ≤ W.heap.size

set_option maxRecDepth 100000 in
set_option maxHeartbeats 2000000 in
theorem law12_first (A : Option Addr) (m c : Nat) (l : List UInt8) (w : World) (hr : Reads w w.heap.size 1 A m (l.map vb)) (hmc : m ≤ c) (hm : m ≤ 1000000) :
    Calls Try.prog 36 #[.slice A m c] w fun e w' => ∃ v, e = .returned v ∧ (((frA l).1 = [] ∧ v = .slice none 0 0) ∨ ∃ r0 r, (frA l).1 = r0 :: r ∧ Own w' w.heap.size v r0) ∧ Below w.heap.size w w' := by
  refine (callsIn_wide (n := 6)).1 ?_
  refine callsIn_of_wp_marks Try.func36 rfl trivial ?_ rfl
  simp only [Try.ntmps36, List.size_toArray, List.length_cons, List.length_nil, Nat.reduceAdd, Nat.reduceSub, Array.replicate_succ, Array.replicate_zero, List.push_toArray, List.append_toArray, List.nil_append, List.cons_append]
  have B3 := (Blk.new w 46 #[.slice none 0 0]).alloc (.cells #[.slice A m c] 46)
  have Bg := Blk.new (w.alloc (.cells #[.slice none 0 0] 46)) 46 #[.slice A m c]
  rw [World.size_alloc] at Bg
  have hB : Below w.heap.size w ((w.alloc (.cells #[.slice none 0 0] 46)).alloc (.cells #[.slice A m c] 46)) := ((Below.refl _ _).alloc (Nat.le_refl _) _).alloc (by simp) _
  have hs0 : w.heap.size + 2 ≤ ((w.alloc (.cells #[.slice none 0 0] 46)).alloc (.cells #[.slice A m c] 46)).heap.size := by simp
  have hr0 := hr.below hB
  gi_wp2
  refine ⟨trivial, ?_⟩
  refine (callsIn_wide.2 (frame_All A m c _)).mono ?_
  rintro e w' ⟨rfl, rfl⟩
  rw [World.size_alloc]
  generalize (w.alloc (.cells #[.slice none 0 0] 46)).alloc (.cells #[.slice A m c] 46) = W0 at *
  have hq := fun w f x y => run_eql_func_nil (P := Try.prog) w 106 _ _ _ f x y Try.underlying106
  gi_wp2
  have HST := all_stops 5 (w.heap.size + 1) A m c l W0 w.heap.size (by omega) Bg hr0 hmc hm
  refine wpIn_range (n := 6) (α := Rc) (w := W0) (encs := fun x : Rc => #[x.1]) (G := fun x W => Own W W0.heap.size x.1 x.2) (Kp := fun W W' => Below w.heap.size W W') (gf := 102) (lb := #[.pointer (some ⟨w.heap.size + 1, 0, none⟩)]) rfl (enters_of Try.func102 (by kernel_rfl) rfl)
    HST (fun _ => by rfl) (fun h k => h.trans k) (fun W l o o' h1 h2 h3 h4 => belowK_b (n₀ := w.heap.size) (w := W0) (by omega) W l o o' h1 h2 h3 h4)
    (FirstI w w.heap.size W0.heap.size) (FirstX w w.heap.size W0.heap.size)
    (fun s W W' row h hg hr => own_turn h hg (fun r e => (hr r e).2))
    ?hI ?hIx
    ⟨⟨rfl, B3.cell 0, B3.frozen 0⟩, hB, Nat.le_refl _⟩
    (fun x => { tmps := #[.slice A m c, undef, .pointer (some ⟨w.heap.size, 0, none⟩), .func (.func 102) #[] #[.pointer (some ⟨w.heap.size + 1, 0, none⟩)], x.1, .slice A m c, .func (.func 102) #[] #[.pointer (some ⟨w.heap.size + 1, 0, none⟩)], .func (.func 102) #[] #[.pointer (some ⟨w.heap.size + 1, 0, none⟩)], .bool false, .func (.func 102) #[] #[.pointer (some ⟨w.heap.size + 1, 0, none⟩)], x.1, undef], defers := [] }) ?assign ?body ?done ?stop
  case hI =>
    rintro pre W W' row ⟨⟨h0, h1, h2⟩, h5, h6⟩ hg hrow
    have hne : ∀ r, row = some r → ∃ o : Obj, W.heap[r]? = some o ∧ o.isCells = false := fun r e => (hrow r e).2
    exact ⟨⟨h0, cell_kept h1 hg hne, (frozen_kept h1 hg hne).trans h2⟩, ownFrom_below (β := Unit) (Nat.le_refl _) (B := W0.heap.size) (by omega) () W W' row h5 hg hrow, Nat.le_trans h6 hg.size⟩
  case hIx =>
    rintro cd pre W W' row ⟨⟨h0, x, h1, h2, h3⟩, h5, h6⟩ hg hrow
    have hne : ∀ r, row = some r → ∃ o : Obj, W.heap[r]? = some o ∧ o.isCells = false := fun r e => (hrow r e).2
    exact ⟨⟨h0, x, h1, cell_kept h2 hg hne, own_turn h3 hg hne⟩, ownFrom_below (β := Unit) (Nat.le_refl _) (B := W0.heap.size) (by omega) () W W' row h5 hg hrow, Nat.le_trans h6 hg.size⟩
  case assign =>
    intro l x W K hK
    gi_wp2
    exact hK
  case body =>
    rintro lp pre ⟨xv, xl⟩ W ⟨⟨rfl, h1, h2⟩, h5, hW0⟩ hG hlen
    dsimp only at hG
    obtain ⟨Ax, cx, rfl, _, _⟩ := hG.reads
    gi_wp2
    exact ⟨(KeepsOthers.setCell _ _ _).from _, ⟨rfl, _, rfl, World.cell?_setCell_same' _ _ _ (by rw [h1]; rfl), own_box hG (by omega)⟩, h5.setCell (p := ⟨w.heap.size, 0, none⟩) (Nat.le_refl _) _, by simp [World.setCell]; omega⟩
  case done =>
    rintro D xs W hD hS ⟨⟨rfl, h1, h2⟩, h5, h6⟩ hK
    gi_wp2
    have hK' := (KeepsOthers.setCell W ⟨w.heap.size, 0, none⟩ (.slice none 0 0)).same D _ hK rfl
    refine ⟨by simp, .inl ⟨_, _, rfl, run_takeDeferred hK', ?_⟩⟩
    have hc5 := cell_kept (World.cell?_setCell_same' W ⟨w.heap.size, 0, none⟩ (.slice none 0 0) (by rw [h1]; rfl)) (grownBy_putObj' _ D (.deferred none)) (fun r e => by cases e; exact ⟨_, hK', rfl⟩)
    refine ⟨.slice none 0 0, ?_, _, rfl, .inl ⟨hS.symm, rfl⟩, (h5.setCell (p := ⟨w.heap.size, 0, none⟩) (Nat.le_refl _) _).trans (belowK_b (n₀ := w.heap.size) (w := w) (Nat.le_refl _) _ D _ _ (by omega) hK' rfl rfl)⟩
    simp [results, Try.results36, go_sem, hc5]
  case stop =>
    rintro D cd pre W hD ⟨r, hS⟩ ⟨⟨rfl, x, rfl, h2, h3⟩, h5, h6⟩ hK
    gi_wp2
    refine ⟨by simp, .inl ⟨_, _, rfl, run_takeDeferred hK, ?_⟩⟩
    have hne : ∀ r, some D = some r → ∃ o : Obj, W.heap[r]? = some o ∧ o.isCells = false := fun r e => by injection e with e; subst e; exact ⟨_, hK, rfl⟩
    have hc5 := cell_kept h2 (grownBy_putObj' _ D (.deferred none)) hne
    refine ⟨x.1, ?_, _, rfl, .inr ⟨x.2, r, hS, (own_turn h3 (grownBy_putObj' _ D (.deferred none)) hne).base_le (by omega)⟩, h5.trans (belowK_b (n₀ := w.heap.size) (w := w) (Nat.le_refl _) _ D _ _ (by omega) hK rfl rfl)⟩
    simp [results, Try.results36, go_sem, hc5]

def LastI (w : World) (g B : Nat) (pre : List Rc) (W : World) : Prop :=
  (∃ v, W.cell? ⟨g, 0, none⟩ = some v ∧ W.frozen? ⟨g, 0, none⟩ = false ∧ W.cell? ⟨g + 1, 0, none⟩ = some (.bool (!pre.isEmpty)) ∧ W.frozen? ⟨g + 1, 0, none⟩ = false ∧ ((pre = [] ∧ v = .slice none 0 0) ∨ ∃ init x, pre = init ++ [x] ∧ v = x.1 ∧ Own W B x.1 x.2)) ∧ Below w.heap.size w W ∧ B ≤ W.heap.size

set_option maxRecDepth 100000 in
set_option maxHeartbeats 2000000 in
theorem frame_Last (A : Option Addr) (m c : Nat) (l : List UInt8) (w : World) (hr : Reads w w.heap.size 1 A m (l.map vb)) (hmc : m ≤ c) (hm : m ≤ 1000000) :
    Calls Try.prog 35 #[.slice A m c] w fun e w' => ∃ v, e = .returned (.tuple #[v, .bool (!(frA l).1.isEmpty)]) ∧ (((frA l).1 = [] ∧ v = .slice none 0 0) ∨ ∃ init r0, (frA l).1 = init ++ [r0] ∧ Own w' w.heap.size v r0) ∧ Below w.heap.size w w' := by
  refine (callsIn_wide (n := 6)).1 ?_
  refine callsIn_of_wp_marks Try.func35 rfl trivial ?_ rfl
  simp only [Try.ntmps35, List.size_toArray, List.length_cons, List.length_nil, Nat.reduceAdd, Nat.reduceSub, Array.replicate_succ, Array.replicate_zero, List.push_toArray, List.append_toArray, List.nil_append, List.cons_append]
  have B4 := ((Blk.new w 46 #[.slice none 0 0]).alloc (.cells #[.bool false] 4)).alloc (.cells #[.slice A m c] 46)
  have B5 := (Blk.new (w.alloc (.cells #[.slice none 0 0] 46)) 4 #[.bool false]).alloc (.cells #[.slice A m c] 46)
  have Bg := Blk.new ((w.alloc (.cells #[.slice none 0 0] 46)).alloc (.cells #[.bool false] 4)) 46 #[.slice A m c]
  rw [World.size_alloc] at B5
  rw [World.size_alloc, World.size_alloc] at Bg
  have hB : Below w.heap.size w (((w.alloc (.cells #[.slice none 0 0] 46)).alloc (.cells #[.bool false] 4)).alloc (.cells #[.slice A m c] 46)) := (((Below.refl _ _).alloc (Nat.le_refl _) _).alloc (by simp) _).alloc (by simp; omega) _
  have hs0 : w.heap.size + 3 ≤ (((w.alloc (.cells #[.slice none 0 0] 46)).alloc (.cells #[.bool false] 4)).alloc (.cells #[.slice A m c] 46)).heap.size := by simp
  have hr0 := hr.below hB
  gi_wp2
  refine ⟨trivial, ?_⟩
  refine (callsIn_wide.2 (frame_All A m c _)).mono ?_
  rintro e w' ⟨rfl, rfl⟩
  simp only [World.size_alloc]
  generalize ((w.alloc (.cells #[.slice none 0 0] 46)).alloc (.cells #[.bool false] 4)).alloc (.cells #[.slice A m c] 46) = W0 at *
  gi_wp2
  have HST := all_stops 5 (w.heap.size + 1 + 1) A m c l W0 w.heap.size (by omega) Bg hr0 hmc hm
  refine wpIn_range (n := 6) (α := Rc) (w := W0) (encs := fun x : Rc => #[x.1]) (G := fun x W => Own W W0.heap.size x.1 x.2) (Kp := fun W W' => Below w.heap.size W W') (gf := 102) (lb := #[.pointer (some ⟨w.heap.size + 1 + 1, 0, none⟩)]) rfl (enters_of Try.func102 (by kernel_rfl) rfl)
    HST (fun _ => by rfl) (fun h k => h.trans k) (fun W l o o' h1 h2 h3 h4 => belowK_b (n₀ := w.heap.size) (w := W0) (by omega) W l o o' h1 h2 h3 h4)
    (LastI w w.heap.size W0.heap.size) (fun _ _ _ => False)
    (fun s W W' row h hg hr => own_turn h hg (fun r e => (hr r e).2))
    ?hI (fun _ _ _ _ _ hs _ _ => hs)
    ⟨⟨_, B4.cell 0, B4.frozen 0, B5.cell 0, B5.frozen 0, .inl ⟨rfl, rfl⟩⟩, hB, Nat.le_refl _⟩
    (fun x => { tmps := #[.slice A m c, undef, .slice none 0 0, .bool false, .pointer (some ⟨w.heap.size, 0, none⟩), .pointer (some ⟨w.heap.size + 1, 0, none⟩), x.1, .slice A m c, .func (.func 102) #[] #[.pointer (some ⟨w.heap.size + 1 + 1, 0, none⟩)], x.1, undef, undef, undef], defers := [] }) ?assign ?body ?done ?stop
  case hI =>
    rintro pre W W' row ⟨⟨v, h1, h2, h3, h4, h7⟩, h5, h6⟩ hg hrow
    have hne : ∀ r, row = some r → ∃ o : Obj, W.heap[r]? = some o ∧ o.isCells = false := fun r e => (hrow r e).2
    refine ⟨⟨v, cell_kept h1 hg hne, (frozen_kept h1 hg hne).trans h2, cell_kept h3 hg hne, (frozen_kept h3 hg hne).trans h4, ?_⟩, ownFrom_below (β := Unit) (Nat.le_refl _) (B := W0.heap.size) (by omega) () W W' row h5 hg hrow, Nat.le_trans h6 hg.size⟩
    rcases h7 with h7 | ⟨init, x, e1, e2, e3⟩
    · exact .inl h7
    · exact .inr ⟨init, x, e1, e2, own_turn e3 hg hne⟩
  case assign =>
    intro l x W K hK
    gi_wp2
    exact hK
  case body =>
    rintro lp pre ⟨xv, xl⟩ W ⟨⟨v, h1, h2, h3, h4, h7⟩, h5, hW0⟩ hG hlen
    dsimp only at hG
    obtain ⟨Ax, cx, rfl, _, _⟩ := hG.reads
    clear h7
    have k1 := World.cell?_setCell_same' W ⟨w.heap.size, 0, none⟩ (.slice Ax xl.length cx) (by rw [h1]; rfl)
    have k3 : (W.setCell ⟨w.heap.size, 0, none⟩ (.slice Ax xl.length cx)).cell? ⟨w.heap.size + 1, 0, none⟩ = some (.bool (!pre.isEmpty)) := by rw [World.cell?_setCell_other _ _ _ _ (by simp)]; exact h3
    have f4 : (W.setCell ⟨w.heap.size, 0, none⟩ (.slice Ax xl.length cx)).frozen? ⟨w.heap.size + 1, 0, none⟩ = false := by rw [World.frozen?_setCell]; exact h4
    have f2 : (W.setCell ⟨w.heap.size, 0, none⟩ (.slice Ax xl.length cx)).frozen? ⟨w.heap.size, 0, none⟩ = false := by rw [World.frozen?_setCell]; exact h2
    have hO := own_box (i := 0) (u := .slice Ax xl.length cx) hG (g := w.heap.size) (by omega)
    have hB1 := h5.setCell (p := ⟨w.heap.size, 0, none⟩) (Nat.le_refl _) (.slice Ax xl.length cx)
    have hk := KeepsOthers.setCell W ⟨w.heap.size, 0, none⟩ (.slice Ax xl.length cx)
    have hkp := (Below.refl w.heap.size W).setCell (p := ⟨w.heap.size, 0, none⟩) (Nat.le_refl _) (.slice Ax xl.length cx)
    have hsz : W0.heap.size ≤ (W.setCell ⟨w.heap.size, 0, none⟩ (.slice Ax xl.length cx)).heap.size := by simp [World.setCell]; omega
    gi_wp2
    generalize W.setCell ⟨w.heap.size, 0, none⟩ (.slice Ax xl.length cx) = W1 at *
    have hne : (pre ++ [(Value.slice Ax xl.length cx, xl)]).isEmpty = false := by cases pre <;> rfl
    refine ⟨(hk.trans (KeepsOthers.setCell _ _ _)).from _, hkp.setCell (p := ⟨w.heap.size + 1, 0, none⟩) (Nat.le_succ _) _, ⟨_, ?_, by rw [World.frozen?_setCell]; exact f2, ?_, by rw [World.frozen?_setCell]; exact f4, .inr ⟨pre, _, rfl, rfl, own_box hO (by omega)⟩⟩, hB1.setCell (p := ⟨w.heap.size + 1, 0, none⟩) (Nat.le_succ _) _, by simp [World.setCell] at hsz ⊢; omega⟩
    · rw [World.cell?_setCell_other _ _ _ _ (by simp)]; exact k1
    · rw [hne]
      exact World.cell?_setCell_same' _ _ _ (by rw [k3]; rfl)
  case done =>
    rintro D xs W hD hS ⟨⟨v, h1, h2, h3, h4, h7⟩, h5, h6⟩ hK
    have hem : (frA l).1.isEmpty = xs.isEmpty := by rw [← hS]; cases xs <;> rfl
    have hv : ∃ Av nv cv, v = .slice Av nv cv := by
      rcases h7 with ⟨_, rfl⟩ | ⟨init, x, _, rfl, h⟩
      · exact ⟨_, _, _, rfl⟩
      · obtain ⟨Ax, cx, h9, _⟩ := h.reads
        exact ⟨_, _, _, h9⟩
    obtain ⟨Av, nv, cv, rfl⟩ := hv
    have H7 := Lib.hid h7
    clear h7
    gi_wp2
    gi_quiet_th (fail)
    gi_wp2
    have hne : ∀ r, some D = some r → ∃ o : Obj, (W.drewN nq).heap[r]? = some o ∧ o.isCells = false := fun r e => by injection e with e; subst e; exact ⟨_, hK, rfl⟩
    have gp := grownBy_putObj' (W.drewN nq) D (.deferred none)
    refine ⟨by simp, .inl ⟨_, _, rfl, run_takeDeferred (w := W.drewN nq) hK, ?_⟩⟩
    refine ⟨_, results_tmp2 rfl _ _ _, .slice Av nv cv, by rw [hem]; rfl, ?_, (below_drewN h5 nq).trans (belowK_b (n₀ := w.heap.size) (w := w) (Nat.le_refl _) _ D _ _ (by omega) hK rfl rfl)⟩
    rcases H7.out with ⟨e1, e2⟩ | ⟨init, x, e1, e2, e3⟩
    · exact .inl ⟨by rw [← hS, e1]; rfl, e2⟩
    · exact .inr ⟨init.map (fun x : Rc => x.2), x.2, by rw [← hS, e1]; simp, by rw [e2]; exact (own_turn (e3.drewN nq) gp hne).base_le (by omega)⟩
  case stop =>
    rintro D c pre W _ _ h _
    exact h.elim
end Go.Proofs.Ytfebncpfhdgkpaa
