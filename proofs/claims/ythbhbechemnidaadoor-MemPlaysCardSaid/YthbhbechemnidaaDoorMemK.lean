/- Contracts of a tree's All and Key, and of the law's all. Contracts of a tree's Deep, and of the law's bounds. -/
import Derived.Test.YthbhbechemnidaaDoorMemF
import Derived.Test.YthbhbechemnidaaDoorMemO
namespace Go.Proofs.YthbhbechemnidaaDoor
open Go.RowKit Go.Sort Go.Shelf
attribute [local go_sem] Oper.semAt_some

theorem tree_All (h : Nat) (w : World) : Calls Tryd.prog 63 #[.pointer (some ⟨h, 0, none⟩)] w fun e w' => e = .returned (.func (.func 103) #[] #[.pointer (some ⟨w.heap.size, 0, none⟩), .pointer (some ⟨w.heap.size + 1, 0, none⟩)]) ∧ w' = (w.alloc (.cells #[.pointer (some ⟨h, 0, none⟩)] 24)).alloc (.cells #[.string ⟨#[]⟩] 9) := by
  go_enter Tryd.func63, Tryd.ntmps63
  go_wp2_with fail
  refine (tree_From h ⟨#[]⟩ w).mono ?_
  rintro x w' ⟨rfl, rfl⟩
  go_wp2_with fail
  go_ret
  exact ⟨rfl, rfl⟩

set_option maxRecDepth 100000 in
set_option maxHeartbeats 2000000 in
theorem law13_all (h k : Nat) (t : TT) (w : World) (hb : Blk w h 27 #[.pointer t.adr, .int .i64 k]) (ht : t.In w w.heap.size) (hm : (t.from_ ⟨#[]⟩).length ≤ 1000001) :
    Calls Tryd.prog 18 #[.pointer (some ⟨h, 0, none⟩)] w fun e w' => ∃ v, e = .returned v ∧ OwnM w' w.heap.size w.heap.size v (t.from_ ⟨#[]⟩) ∧ Below w.heap.size w w' := by
  refine (callsIn_wide (n := 6)).1 ?_
  refine callsIn_of_wp_marks Tryd.func18 rfl trivial ?_ rfl
  simp only [Tryd.ntmps18, List.size_toArray, List.length_cons, List.length_nil, Nat.reduceAdd, Nat.reduceSub, Array.replicate_succ, Array.replicate_zero, List.push_toArray, List.append_toArray, List.nil_append, List.cons_append]
  obtain ⟨W1, hW1⟩ : ∃ W1, w.alloc (.cells #[.slice none 0 0] 22) = W1 := ⟨_, rfl⟩
  have B5 := Blk.new w 22 #[.slice none 0 0]
  have s1 : W1.heap.size = w.heap.size + 1 := by rw [← hW1]; simp
  have Bt := (Blk.new W1 24 #[.pointer (some ⟨h, 0, none⟩)]).alloc (.cells #[.string ⟨#[]⟩] 9)
  have Bk := Blk.new (W1.alloc (.cells #[.pointer (some ⟨h, 0, none⟩)] 24)) 9 #[.string ⟨#[]⟩]
  rw [World.size_alloc] at Bk
  have hB : Below w.heap.size w ((W1.alloc (.cells #[.pointer (some ⟨h, 0, none⟩)] 24)).alloc (.cells #[.string ⟨#[]⟩] 9)) := by
    rw [← hW1]
    exact (((Below.refl _ _).alloc (Nat.le_refl _) _).alloc (by simp) _).alloc (by simp; omega) _
  rw [hW1] at B5
  replace B5 := (B5.alloc (.cells #[.pointer (some ⟨h, 0, none⟩)] 24)).alloc (.cells #[.string ⟨#[]⟩] 9)
  have hs0 : ((W1.alloc (.cells #[.pointer (some ⟨h, 0, none⟩)] 24)).alloc (.cells #[.string ⟨#[]⟩] 9)).heap.size = w.heap.size + 3 := by simp [s1]
  have hl := hb.lt
  have hb0 := hb.below hB hl
  have ht0 := ht.below hB
  clear hb ht
  gi_wp2
  refine ⟨trivial, ?_⟩
  refine (callsIn_wide.2 (tree_All h W1)).mono ?_
  rintro e w' ⟨rfl, rfl⟩
  generalize (W1.alloc (.cells #[.pointer (some ⟨h, 0, none⟩)] 24)).alloc (.cells #[.string ⟨#[]⟩] 9) = W0 at *
  rw [s1] at *
  have hq := fun w f x y => run_eql_func_nil (P := Tryd.prog) w 82 _ _ _ f x y Tryd.underlying82
  gi_wp2
  have HST := from_stops 5 (w.heap.size + 1) (w.heap.size + 1 + 1) h W0.heap.size w.heap.size ⟨#[]⟩ t k W0 (by omega) Bt Bk hl hb0 ht0 (Nat.le_refl _) hm
  refine wpIn_rangeH (n := 6) (α := MutS) (w := W0) (encs := fun x : MutS => #[.agg (mutC x.m (.slice x.A x.n x.c))]) (G := fun x W => OwnE W W0.heap.size x) (Kp := fun W W' => Below w.heap.size W W') (gf := 103) (lb := #[.pointer (some ⟨w.heap.size + 1, 0, none⟩), .pointer (some ⟨w.heap.size + 1 + 1, 0, none⟩)]) rfl (enters_of Tryd.func103 (by kernel_rfl) rfl)
    HST (fun _ => by rfl) (fun h k => h.trans k) (fun W l o o' h1 h2 h3 h4 => belowK_b (n₀ := w.heap.size) (w := W0) (by omega) W l o o' h1 h2 h3 h4)
    (FromI w w.heap.size W0.heap.size) (fun _ _ _ => False)
    ?hI (fun _ _ _ _ _ hs _ _ => hs)
    ⟨⟨_, B5.cell 0, B5.frozen 0, OwnM.nil_ _ _ _⟩, hB, Nat.le_refl _⟩
    (fun x a' W => ∃ gm : Nat, a' = { tmps := #[.pointer (some ⟨h, 0, none⟩), undef, .slice none 0 0, .pointer (some ⟨w.heap.size, 0, none⟩), .func (.func 103) #[] #[.pointer (some ⟨w.heap.size + 1, 0, none⟩), .pointer (some ⟨w.heap.size + 1 + 1, 0, none⟩)], .pointer (some ⟨gm, 0, none⟩), .pointer (some ⟨h, 0, none⟩), .func (.func 103) #[] #[.pointer (some ⟨w.heap.size + 1, 0, none⟩), .pointer (some ⟨w.heap.size + 1 + 1, 0, none⟩)], .func (.func 103) #[] #[.pointer (some ⟨w.heap.size + 1, 0, none⟩), .pointer (some ⟨w.heap.size + 1 + 1, 0, none⟩)], .bool false, .func (.func 103) #[] #[.pointer (some ⟨w.heap.size + 1, 0, none⟩), .pointer (some ⟨w.heap.size + 1 + 1, 0, none⟩)], .agg (mutC x.m (.slice x.A x.n x.c)), undef, undef, undef, undef, undef], defers := [] } ∧ W0.heap.size ≤ gm ∧ Blk W gm 35 (mutC x.m (.slice x.A x.n x.c)) ∧ OwnE W W0.heap.size x)
    ?hAx ?assign ?body ?done ?stop
  case hI =>
    rintro pre W W' row ⟨⟨v, h1, h2, h3⟩, h5, h6⟩ hg hrow
    have hne : ∀ r, row = some r → ∃ o : Obj, W.heap[r]? = some o ∧ o.isCells = false := fun r e => (hrow r e).2
    exact ⟨⟨v, cell_kept h1 hg hne, (frozen_kept h1 hg hne).trans h2, OwnM.kept h3 hg hne⟩, ownFrom_below (β := Unit) (Nat.le_refl _) (B := W0.heap.size) (by omega) () W W' row h5 hg hrow, Nat.le_trans h6 hg.size⟩
  case hAx =>
    rintro x a' _ W W' row ⟨gm, rfl, h1, h2, h3⟩ hg hrow
    have hne : ∀ r, row = some r → ∃ o : Obj, W.heap[r]? = some o ∧ o.isCells = false := fun r e => (hrow r e).2
    refine ⟨gm, rfl, h1, ?_, h3.kept hg hne⟩
    refine (hg.block gm h2.lt (fun e => ?_)).trans h2
    obtain ⟨o, ho, hc⟩ := hne gm e.symm
    have h2' : W.heap[gm]? = some (.cells (mutC x.m (.slice x.A x.n x.c)) 35) := h2
    rw [h2'] at ho
    injection ho with ho
    subst ho
    cases hc
  case assign =>
    rintro l pre x W K ⟨⟨v, h1, h2, h3⟩, h5, h6⟩ hG hK
    have ba : Below w.heap.size W (W.alloc (.cells (mutC x.m (.slice x.A x.n x.c)) 35)) := (Below.refl _ W).alloc (by omega) _
    have bw : Below W.heap.size W (W.alloc (.cells (mutC x.m (.slice x.A x.n x.c)) 35)) := (Below.refl _ W).alloc (Nat.le_refl _) _
    have hk := hK _ _ ((KeepsOthers.alloc W (.cells (mutC x.m (.slice x.A x.n x.c)) 35)).from _) ba ⟨⟨v, (bw.cell (p := ⟨w.heap.size, 0, none⟩) (block_lt_of_cell h1)).trans h1, (bw.frozen (p := ⟨w.heap.size, 0, none⟩) (block_lt_of_cell h1)).trans h2, h3.below bw⟩, h5.trans ba, Nat.le_trans h6 bw.size⟩ ⟨W.heap.size, rfl, h6, Blk.new W _ _, hG.below bw⟩
    unfold mutC at hk
    have HK := Lib.hid hk
    clear hK hk h1 h2 h3 h5 hG ba bw
    unfold mutC
    gi_wp2
    exact HK.out
  case body =>
    rintro lp pre x a' W ⟨⟨v, h1, h2, h3⟩, h5, hW0⟩ ⟨gm, rfl, hgm, bm, hE⟩ hlen
    obtain ⟨M, hM⟩ : ∃ M, pre.map (·.m) = M := ⟨_, rfl⟩
    have hpl : M.length ≤ 1000000000 := by rw [← hM, List.length_map]; omega
    have hMx : (pre ++ [x]).map (·.m) = M ++ [x.m] := by rw [List.map_append, hM]; rfl
    have HM := Lib.hid hMx
    rw [hM] at h3
    clear hM hMx
    obtain ⟨Av, cv, rfl, -, -, -⟩ := h3.rd
    have m0 : W.cell? ⟨gm, 0, none⟩ = some (.int .i64 x.m.tab) := bm.cell 0
    have m1 : W.cell? ⟨gm, 1, none⟩ = some (.int .i64 x.m.kind) := bm.cell 1
    have m2 : W.cell? ⟨gm, 2, none⟩ = some (.string x.m.key) := bm.cell 2
    have m3 : W.cell? ⟨gm, 3, none⟩ = some (.string x.m.en) := bm.cell 3
    have m4 : W.cell? ⟨gm, 4, none⟩ = some (.string x.m.val) := bm.cell 4
    have m5 : W.cell? ⟨gm, 5, none⟩ = some (.int .i64 x.m.exp) := bm.cell 5
    have m6 : W.cell? ⟨gm, 6, none⟩ = some (.int .i64 x.m.at_.1) := bm.cell 6
    have m7 : W.cell? ⟨gm, 7, none⟩ = some (.int .i64 x.m.at_.2.1) := bm.cell 7
    have m8 : W.cell? ⟨gm, 8, none⟩ = some (.int .i64 x.m.at_.2.2) := bm.cell 8
    have m9 : W.cell? ⟨gm, 9, none⟩ = some (.slice x.A x.n x.c) := bm.cell 9
    have H3 := Lib.hid h3
    have HEr := Lib.hid hE.rd
    have HZ : Hid (x.n ≤ 1000000000 ∧ (x.A = none → x.c = 0)) := Lib.hid hE.2.2
    have HNE : Hid (∀ ad, x.A = some ad → (Value.slice Av M.length cv).ownBlock ≠ some ad.block) := Lib.hid (fun ad hA e => by
      obtain ⟨L, _, q1, _⟩ := h3.row
      rcases own_apart q1 hE.1 (by decide) with h | h
      · rw [h] at e; cases e
      · exact h (e.trans (by rw [hA]; rfl)))
    have HLT : Hid (∀ ad, x.A = some ad → W0.heap.size ≤ ad.block ∧ ad.block < W.heap.size) := Lib.hid (fun ad hA => World.ownsRow.lt hE.1 ad.block (by rw [hA]; rfl))
    have HK3 : Hid (∀ u w2, (W.alloc (.cells u 35)).grownBy w2 (Value.slice Av M.length cv).ownBlock → KeepsOthers W w2) := Lib.hid (fun u w2 hg => by
      obtain ⟨L, _, q1, _⟩ := h3.row
      exact (KeepsOthers.alloc W _).trans (keeps_of_own (World.ownsRow.alloc q1 _) hg))
    have HL3 := Lib.hid h3.lt
    clear h3 hE bm
    unfold mutC
    gi_wp2_with (gi_at_builtin; go_must (refine wpListIn_append_mut W x.m x.A x.n x.c _ (by unfold mutC; simp) rfl _ _ rfl W0.heap.size W0.heap.size _ M rfl H3.out HEr.out HNE.out HLT.out HZ.out rfl hpl hW0 ?_); intro v' w2 O2 G2; (obtain ⟨A2, c2, rfl, -, -, -⟩ := O2.rd); (have hne : ∀ q, (Value.slice Av M.length cv).ownBlock = some q → w.heap.size < q := fun q hq => by have := (HL3.out q hq).1; omega); (obtain ⟨k2, f2⟩ := box_kept h1 G2 hne); (rw [h2] at f2))
    have gs := only_set1 w2 w.heap.size 0 (.slice A2 (M.length + 1) c2)
    have hlM : (M ++ [x.m]).length = M.length + 1 := by simp
    have hkp : Below w.heap.size W (w2.setCell ⟨w.heap.size, 0, none⟩ (.slice A2 (M.length + 1) c2)) :=
      (Below.grown ((Below.refl w.heap.size W).alloc h5.size _) G2 (by rw [World.size_alloc]; have := h5.size; omega) (fun q hq => by have := (HL3.out q hq).1; omega)).setCell (p := ⟨w.heap.size, 0, none⟩) (Nat.le_refl _) _
    rw [← hs0]
    refine ⟨((HK3.out _ _ G2).trans (KeepsOthers.setCell _ _ _)).from _, hkp, ⟨_, World.cell?_setCell_same' _ _ _ (by rw [k2]; rfl), by rw [World.frozen?_setCell]; exact f2, ?_⟩, h5.trans hkp, Nat.le_trans hW0 hkp.size⟩
    rw [HM.out]
    rw [hlM] at O2
    exact O2.grown_g gs (by omega) (by omega)
  case done =>
    rintro D xs W hD hS ⟨⟨v, h1, h2, h3⟩, h5, h6⟩ hK
    have hne : ∀ r, some D = some r → ∃ o : Obj, W.heap[r]? = some o ∧ o.isCells = false := fun r e => by injection e with e; subst e; exact ⟨_, hK, rfl⟩
    have hS' : xs.map (·.m) = t.from_ ⟨#[]⟩ := hS
    rw [hS'] at h3
    obtain ⟨Av, cv, rfl, -, -, -⟩ := h3.rd
    have H3 := Lib.hid h3
    clear h3 hS hS'
    gi_wp2
    refine ⟨by simp, .inl ⟨_, _, rfl, run_takeDeferred hK, ?_⟩⟩
    have gp := grownBy_putObj' W D (.deferred none)
    exact ⟨_, results_tmp rfl _ _ _, _, rfl, ((OwnM.kept H3.out gp hne).base_le (by omega)).lo_le (by omega), h5.trans (belowK_b (n₀ := w.heap.size) (w := w) (Nat.le_refl _) W D _ _ (by omega) hK rfl rfl)⟩
  case stop =>
    rintro D c pre W _ _ h _
    exact h.elim
/-- What the loop that collects those of a key keeps. -/
def KeyI (w : World) (key : ByteArray) (B : Nat) (pre : List MutS) (W : World) : Prop :=
  (W.cell? ⟨w.heap.size, 0, none⟩ = some (.string key) ∧ W.frozen? ⟨w.heap.size, 0, none⟩ = false ∧ (∃ v, W.cell? ⟨w.heap.size + 1, 0, none⟩ = some v ∧ W.frozen? ⟨w.heap.size + 1, 0, none⟩ = false ∧ OwnM W B B v (pre.map (·.m))) ∧ ∀ x ∈ pre, eqK key x.m = true) ∧ Below w.heap.size w W ∧ B ≤ W.heap.size
theorem KeyI.own {w : World} {key : ByteArray} {B : Nat} (hB : w.heap.size ≤ B) : OwnFrom B (KeyI w key B) := by
  rintro pre W W' row ⟨⟨k1, k2, ⟨v, h1, h2, h3⟩, h4⟩, h5, h6⟩ hg hrow
  have hne : ∀ r, row = some r → ∃ o : Obj, W.heap[r]? = some o ∧ o.isCells = false := fun r e => (hrow r e).2
  exact ⟨⟨cell_kept k1 hg hne, (frozen_kept k1 hg hne).trans k2, ⟨v, cell_kept h1 hg hne, (frozen_kept h1 hg hne).trans h2, OwnM.kept h3 hg hne⟩, h4⟩, ownFrom_below (β := Unit) (Nat.le_refl _) (B := B) hB () W W' row h5 hg hrow, Nat.le_trans h6 hg.size⟩
theorem take_of (p : Mut → Bool) : ∀ (q : List Mut) (x : Mut) (r : List Mut), (∀ y ∈ q, p y = true) → p x = false → (q ++ x :: r).takeWhile p = q
  | [], x, r, _, hx => by rw [List.nil_append, List.takeWhile_cons, hx]; rfl
  | a :: q, x, r, h, hx => by
    rw [List.cons_append, List.takeWhile_cons, if_pos (h a (List.mem_cons_self ..)), take_of p q x r (fun y hy => h y (List.mem_cons_of_mem _ hy)) hx]
theorem take_all (p : Mut → Bool) : ∀ q : List Mut, (∀ y ∈ q, p y = true) → q.takeWhile p = q
  | [], _ => rfl
  | a :: q, h => by rw [List.takeWhile_cons, if_pos (h a (List.mem_cons_self ..)), take_all p q (fun y hy => h y (List.mem_cons_of_mem _ hy))]

set_option maxRecDepth 100000 in
set_option maxHeartbeats 2000000 in
theorem tree_Key (h k : Nat) (key : ByteArray) (t : TT) (w : World) (hb : Blk w h 27 #[.pointer t.adr, .int .i64 k]) (ht : t.In w w.heap.size) (hm : (t.from_ key).length ≤ 1000001) :
    Calls Tryd.prog 20 #[.pointer (some ⟨h, 0, none⟩), .string key] w fun e w' => ∃ v, e = .returned v ∧ OwnM w' w.heap.size w.heap.size v ((t.from_ key).takeWhile (eqK key)) ∧ Below w.heap.size w w' := by
  refine (callsIn_wide (n := 6)).1 ?_
  refine callsIn_of_wp_marks Tryd.func20 rfl trivial ?_ rfl
  simp only [Tryd.ntmps20, List.size_toArray, List.length_cons, List.length_nil, Nat.reduceAdd, Nat.reduceSub, Array.replicate_succ, Array.replicate_zero, List.push_toArray, List.append_toArray, List.nil_append, List.cons_append]
  obtain ⟨W1, hW1⟩ : ∃ W1, (w.alloc (.cells #[.string key] 9)).alloc (.cells #[.slice none 0 0] 22) = W1 := ⟨_, rfl⟩
  have B3 := (Blk.new w 9 #[.string key]).alloc (.cells #[.slice none 0 0] 22)
  have B5 := Blk.new (w.alloc (.cells #[.string key] 9)) 22 #[.slice none 0 0]
  rw [World.size_alloc] at B5
  have s1 : W1.heap.size = w.heap.size + 2 := by rw [← hW1]; simp
  have Bt := (Blk.new W1 24 #[.pointer (some ⟨h, 0, none⟩)]).alloc (.cells #[.string key] 9)
  have Bk := Blk.new (W1.alloc (.cells #[.pointer (some ⟨h, 0, none⟩)] 24)) 9 #[.string key]
  rw [World.size_alloc] at Bk
  have hB : Below w.heap.size w ((W1.alloc (.cells #[.pointer (some ⟨h, 0, none⟩)] 24)).alloc (.cells #[.string key] 9)) := by
    rw [← hW1]
    exact ((((Below.refl _ _).alloc (Nat.le_refl _) _).alloc (by simp) _).alloc (by simp; omega) _).alloc (by simp; omega) _
  rw [hW1] at B5 B3
  have c3 : W1.cell? ⟨w.heap.size, 0, none⟩ = some (.string key) := B3.cell 0
  replace B5 := (B5.alloc (.cells #[.pointer (some ⟨h, 0, none⟩)] 24)).alloc (.cells #[.string key] 9)
  replace B3 := (B3.alloc (.cells #[.pointer (some ⟨h, 0, none⟩)] 24)).alloc (.cells #[.string key] 9)
  have hs0 : ((W1.alloc (.cells #[.pointer (some ⟨h, 0, none⟩)] 24)).alloc (.cells #[.string key] 9)).heap.size = w.heap.size + 4 := by simp [s1]
  have hl := hb.lt
  have hb0 := hb.below hB hl
  have ht0 := ht.below hB
  clear hb ht
  gi_wp2
  refine ⟨trivial, ?_⟩
  refine (callsIn_wide.2 (tree_From h key W1)).mono ?_
  rintro e w' ⟨rfl, rfl⟩
  clear c3
  generalize (W1.alloc (.cells #[.pointer (some ⟨h, 0, none⟩)] 24)).alloc (.cells #[.string key] 9) = W0 at *
  rw [s1] at *
  gi_wp2
  have HST := from_stops 5 (w.heap.size + 2) (w.heap.size + 2 + 1) h W0.heap.size w.heap.size key t k W0 (by omega) Bt Bk hl hb0 ht0 (Nat.le_refl _) hm
  refine wpIn_rangeH (n := 6) (α := MutS) (w := W0) (encs := fun x : MutS => #[.agg (mutC x.m (.slice x.A x.n x.c))]) (G := fun x W => OwnE W W0.heap.size x) (Kp := fun W W' => Below w.heap.size W W') (gf := 103) (lb := #[.pointer (some ⟨w.heap.size + 2, 0, none⟩), .pointer (some ⟨w.heap.size + 2 + 1, 0, none⟩)]) rfl (enters_of Tryd.func103 (by kernel_rfl) rfl)
    HST (fun _ => by rfl) (fun h k => h.trans k) (fun W l o o' h1 h2 h3 h4 => belowK_b (n₀ := w.heap.size) (w := W0) (by omega) W l o o' h1 h2 h3 h4)
    (KeyI w key W0.heap.size) (fun c pre W => c = .exit 0 ∧ ∃ q x, pre = q ++ [x] ∧ eqK key x.m = false ∧ KeyI w key W0.heap.size q W)
    (KeyI.own (by omega)) ?hIx
    ⟨⟨B3.cell 0, B3.frozen 0, ⟨_, B5.cell 0, B5.frozen 0, OwnM.nil_ _ _ _⟩, fun x hx => by cases hx⟩, hB, Nat.le_refl _⟩
    (fun x a' W => ∃ gm : Nat, a' = { tmps := #[.pointer (some ⟨h, 0, none⟩), .string key, undef, .pointer (some ⟨w.heap.size, 0, none⟩), .slice none 0 0, .pointer (some ⟨w.heap.size + 1, 0, none⟩), .pointer (some ⟨gm, 0, none⟩), .pointer (some ⟨h, 0, none⟩), .string key, .func (.func 103) #[] #[.pointer (some ⟨w.heap.size + 2, 0, none⟩), .pointer (some ⟨w.heap.size + 2 + 1, 0, none⟩)], .agg (mutC x.m (.slice x.A x.n x.c)), undef, undef, undef, undef, undef, undef, undef, undef, undef], defers := [] } ∧ W0.heap.size ≤ gm ∧ Blk W gm 35 (mutC x.m (.slice x.A x.n x.c)) ∧ OwnE W W0.heap.size x)
    ?hAx ?assign ?body ?done ?stop
  case hIx =>
    rintro c pre W W' row ⟨rfl, q, x, rfl, hx, hI⟩ hg hrow
    exact ⟨rfl, q, x, rfl, hx, KeyI.own (by omega) q W W' row hI hg hrow⟩
  case hAx =>
    rintro x a' _ W W' row ⟨gm, rfl, h1, h2, h3⟩ hg hrow
    have hne : ∀ r, row = some r → ∃ o : Obj, W.heap[r]? = some o ∧ o.isCells = false := fun r e => (hrow r e).2
    refine ⟨gm, rfl, h1, ?_, h3.kept hg hne⟩
    refine (hg.block gm h2.lt (fun e => ?_)).trans h2
    obtain ⟨o, ho, hc⟩ := hne gm e.symm
    have h2' : W.heap[gm]? = some (.cells (mutC x.m (.slice x.A x.n x.c)) 35) := h2
    rw [h2'] at ho
    injection ho with ho
    subst ho
    cases hc
  case assign =>
    rintro l pre x W K ⟨⟨k1, k2, ⟨v, h1, h2, h3⟩, h4⟩, h5, h6⟩ hG hK
    have ba : Below w.heap.size W (W.alloc (.cells (mutC x.m (.slice x.A x.n x.c)) 35)) := (Below.refl _ W).alloc (by omega) _
    have bw : Below W.heap.size W (W.alloc (.cells (mutC x.m (.slice x.A x.n x.c)) 35)) := (Below.refl _ W).alloc (Nat.le_refl _) _
    have hk := hK _ _ ((KeepsOthers.alloc W (.cells (mutC x.m (.slice x.A x.n x.c)) 35)).from _) ba ⟨⟨(bw.cell (p := ⟨w.heap.size, 0, none⟩) (block_lt_of_cell k1)).trans k1, (bw.frozen (p := ⟨w.heap.size, 0, none⟩) (block_lt_of_cell k1)).trans k2, ⟨v, (bw.cell (p := ⟨w.heap.size + 1, 0, none⟩) (block_lt_of_cell h1)).trans h1, (bw.frozen (p := ⟨w.heap.size + 1, 0, none⟩) (block_lt_of_cell h1)).trans h2, h3.below bw⟩, h4⟩, h5.trans ba, Nat.le_trans h6 bw.size⟩ ⟨W.heap.size, rfl, h6, Blk.new W _ _, hG.below bw⟩
    unfold mutC at hk
    have HK := Lib.hid hk
    clear hK hk h1 h2 h3 h5 hG ba bw k1 k2 h4
    unfold mutC
    gi_wp2
    exact HK.out
  case body =>
    rintro lp pre x a' W ⟨⟨k1, k3, ⟨v, h1, h2, h3⟩, h4⟩, h5, hW0⟩ ⟨gm, rfl, hgm, bm, hE⟩ hlen
    obtain ⟨M, hM⟩ : ∃ M, pre.map (·.m) = M := ⟨_, rfl⟩
    have hpl : M.length ≤ 1000000000 := by rw [← hM, List.length_map]; omega
    have hMx : (pre ++ [x]).map (·.m) = M ++ [x.m] := by rw [List.map_append, hM]; rfl
    have HM := Lib.hid hMx
    rw [hM] at h3
    have hM0 := hM
    clear hM hMx
    obtain ⟨Av, cv, rfl, -, -, -⟩ := h3.rd
    have m0 : W.cell? ⟨gm, 0, none⟩ = some (.int .i64 x.m.tab) := bm.cell 0
    have m1 : W.cell? ⟨gm, 1, none⟩ = some (.int .i64 x.m.kind) := bm.cell 1
    have m2 : W.cell? ⟨gm, 2, none⟩ = some (.string x.m.key) := bm.cell 2
    have m3 : W.cell? ⟨gm, 3, none⟩ = some (.string x.m.en) := bm.cell 3
    have m4 : W.cell? ⟨gm, 4, none⟩ = some (.string x.m.val) := bm.cell 4
    have m5 : W.cell? ⟨gm, 5, none⟩ = some (.int .i64 x.m.exp) := bm.cell 5
    have m6 : W.cell? ⟨gm, 6, none⟩ = some (.int .i64 x.m.at_.1) := bm.cell 6
    have m7 : W.cell? ⟨gm, 7, none⟩ = some (.int .i64 x.m.at_.2.1) := bm.cell 7
    have m8 : W.cell? ⟨gm, 8, none⟩ = some (.int .i64 x.m.at_.2.2) := bm.cell 8
    have m9 : W.cell? ⟨gm, 9, none⟩ = some (.slice x.A x.n x.c) := bm.cell 9
    have HI : Hid (KeyI w key W0.heap.size pre W) := Lib.hid ⟨⟨k1, k3, ⟨_, h1, h2, by rw [hM0]; exact h3⟩, h4⟩, h5, hW0⟩
    have H3 := Lib.hid h3
    have H4 := Lib.hid h4
    clear h4
    have HEr := Lib.hid hE.rd
    have HZ : Hid (x.n ≤ 1000000000 ∧ (x.A = none → x.c = 0)) := Lib.hid hE.2.2
    have HNE : Hid (∀ ad, x.A = some ad → (Value.slice Av M.length cv).ownBlock ≠ some ad.block) := Lib.hid (fun ad hA e => by
      obtain ⟨L, _, q1, _⟩ := h3.row
      rcases own_apart q1 hE.1 (by decide) with h | h
      · rw [h] at e; cases e
      · exact h (e.trans (by rw [hA]; rfl)))
    have HLT : Hid (∀ ad, x.A = some ad → W0.heap.size ≤ ad.block ∧ ad.block < W.heap.size) := Lib.hid (fun ad hA => World.ownsRow.lt hE.1 ad.block (by rw [hA]; rfl))
    have HK3 : Hid (∀ u w2, (W.alloc (.cells u 35)).grownBy w2 (Value.slice Av M.length cv).ownBlock → KeepsOthers W w2) := Lib.hid (fun u w2 hg => by
      obtain ⟨L, _, q1, _⟩ := h3.row
      exact (KeepsOthers.alloc W _).trans (keeps_of_own (World.ownsRow.alloc q1 _) hg))
    have HL3 := Lib.hid h3.lt
    clear h3 hE bm hM0
    cases hq : (x.m.key.toList == key.toList)
    · have hq' : eqK key x.m = false := hq
      have HQ := Lib.hid hq'
      clear hq'
      gi_wp2
      rw [← hs0]
      exact ⟨KeepsFrom.refl _ _, rfl, pre, x, rfl, HQ.out, HI.out⟩
    · have hq' : eqK key x.m = true := hq
      have HQ := Lib.hid hq'
      clear hq'
      unfold mutC
      gi_wp2_with (gi_at_builtin; go_must (refine wpListIn_append_mut W x.m x.A x.n x.c _ (by unfold mutC; simp) rfl _ _ rfl W0.heap.size W0.heap.size _ M rfl H3.out HEr.out HNE.out HLT.out HZ.out rfl hpl hW0 ?_); intro v' w2 O2 G2; (obtain ⟨A2, c2, rfl, -, -, -⟩ := O2.rd); (have hne : ∀ q, (Value.slice Av M.length cv).ownBlock = some q → w.heap.size + 1 < q := fun q hq => by have := (HL3.out q hq).1; omega); (obtain ⟨k2, f2⟩ := box_kept h1 G2 hne); (rw [h2] at f2); (obtain ⟨k4, f4⟩ := box_kept k1 G2 (fun q hq => Nat.lt_of_succ_lt (hne q hq))); (rw [k3] at f4))
      have gs := only_set1 w2 (w.heap.size + 1) 0 (.slice A2 (M.length + 1) c2)
      have hlM : (M ++ [x.m]).length = M.length + 1 := by simp
      have hkp : Below w.heap.size W (w2.setCell ⟨w.heap.size + 1, 0, none⟩ (.slice A2 (M.length + 1) c2)) :=
        (Below.grown ((Below.refl w.heap.size W).alloc h5.size _) G2 (by rw [World.size_alloc]; have := h5.size; omega) (fun q hq => by have := (HL3.out q hq).1; omega)).setCell (p := ⟨w.heap.size + 1, 0, none⟩) (Nat.le_succ _) _
      rw [← hs0]
      have k5 := (World.cell?_of_block (a := ⟨w.heap.size, 0, none⟩) (gs.block w.heap.size (block_lt_of_cell k4) (fun e => by injection e with e; omega))).trans k4
      refine ⟨((HK3.out _ _ G2).trans (KeepsOthers.setCell _ _ _)).from _, hkp, ⟨k5, by rw [World.frozen?_setCell]; exact f4, ⟨_, World.cell?_setCell_same' _ _ _ (by rw [k2]; rfl), by rw [World.frozen?_setCell]; exact f2, ?_⟩, ?_⟩, h5.trans hkp, Nat.le_trans hW0 hkp.size⟩
      · rw [HM.out]
        rw [hlM] at O2
        exact O2.grown_g gs (by omega) (by omega)
      · intro y hy
        rcases List.mem_append.1 hy with hy | hy
        · exact H4.out y hy
        · rw [List.mem_singleton.1 hy]
          exact HQ.out
  case done =>
    rintro D xs W hD hS ⟨⟨k1, k2, ⟨v, h1, h2, h3⟩, h4⟩, h5, h6⟩ hK
    have hne : ∀ r, some D = some r → ∃ o : Obj, W.heap[r]? = some o ∧ o.isCells = false := fun r e => by injection e with e; subst e; exact ⟨_, hK, rfl⟩
    have hS' : (t.from_ key).takeWhile (eqK key) = xs.map (·.m) := by
      rw [← show xs.map (·.m) = t.from_ key from hS]
      refine take_all _ _ fun y hy => ?_
      obtain ⟨z, hz, rfl⟩ := List.mem_map.1 hy
      exact h4 z hz
    rw [← hS'] at h3
    obtain ⟨Av, cv, rfl, -, -, -⟩ := h3.rd
    have H3 := Lib.hid h3
    clear h3 hS hS' h4 k1 k2
    gi_wp2
    refine ⟨by simp, .inl ⟨_, _, rfl, run_takeDeferred hK, ?_⟩⟩
    have gp := grownBy_putObj' W D (.deferred none)
    exact ⟨_, results_tmp rfl _ _ _, _, rfl, ((OwnM.kept H3.out gp hne).base_le (by omega)).lo_le (by omega), h5.trans (belowK_b (n₀ := w.heap.size) (w := w) (Nat.le_refl _) W D _ _ (by omega) hK rfl rfl)⟩
  case stop =>
    rintro D c pre W hD hS ⟨rfl, q, x, rfl, hx, ⟨⟨k1, k2, ⟨v, h1, h2, h3⟩, h4⟩, h5, h6⟩⟩ hK
    have hne : ∀ r, some D = some r → ∃ o : Obj, W.heap[r]? = some o ∧ o.isCells = false := fun r e => by injection e with e; subst e; exact ⟨_, hK, rfl⟩
    have hS' : (t.from_ key).takeWhile (eqK key) = q.map (·.m) := by
      obtain ⟨r, hr⟩ := (show (q ++ [x]).map (·.m) <+: t.from_ key from hS)
      rw [← hr, List.map_append, List.append_assoc]
      refine take_of _ _ _ _ (fun y hy => ?_) hx
      obtain ⟨z, hz, rfl⟩ := List.mem_map.1 hy
      exact h4 z hz
    rw [← hS'] at h3
    obtain ⟨Av, cv, rfl, -, -, -⟩ := h3.rd
    have H3 := Lib.hid h3
    clear h3 hS hS' h4 k1 k2
    gi_wp2
    refine ⟨by simp, .inl ⟨_, _, rfl, run_takeDeferred hK, ?_⟩⟩
    have gp := grownBy_putObj' W D (.deferred none)
    exact ⟨_, results_tmp rfl _ _ _, _, rfl, ((OwnM.kept H3.out gp hne).base_le (by omega)).lo_le (by omega), h5.trans (belowK_b (n₀ := w.heap.size) (w := w) (Nat.le_refl _) W D _ _ (by omega) hK rfl rfl)⟩
end Go.Proofs.YthbhbechemnidaaDoor

namespace Go.Proofs.YthbhbechemnidaaDoor
open Go.RowKit Go.Sort

theorem TT.In.more {w : World} {n0 n1 : Nat} (h : n0 ≤ n1) : ∀ {t : TT}, t.In w n0 → t.In w n1
  | .nil, _ => trivial
  | .node _ _ _ _ _, ⟨h1, h2, h3, h4, h5, h6⟩ => ⟨Nat.lt_of_lt_of_le h1 h, h2, h3.more h, h4, TT.In.more h h5, TT.In.more h h6⟩

theorem max_ints (ats : Array TypeId) (ty : TypeId) (k : IntKind) (a b : Int) : Builtin.max_ ats ty #[.int k a, .int k b] = pure (.int k (max a b)) := by
  have h : max a b = if b > a then b else a := by
    rw [Int.max_def]
    split <;> split <;> omega
  rw [h]
  simp [Builtin.max_, Builtin.max2]
attribute [local go_sem] max_ints

set_option maxRecDepth 100000 in
set_option maxHeartbeats 2000000 in
theorem mem_deep : ∀ (t : TT) (w : World), t.In w w.heap.size → t.deep ≤ 1000000 →
    Calls Tryd.prog 65 #[.pointer t.adr] w fun e w' => e = .returned (.int .i64 t.deep) ∧ Below w.heap.size w w' := by
  intro t
  induction t with
  | nil =>
    intro w _ _
    simp only [adr_nil]
    go_enter Tryd.func65, Tryd.ntmps65
    go_wp2_with fail
    go_ret
    exact ⟨rfl, Below.refl _ _⟩
  | node g l e wt r ihl ihr =>
    intro w hT hd
    obtain ⟨hg, BK, _, _, hl, hr⟩ := hT
    have hd1 : 1 + max l.deep r.deep ≤ 1000000 := hd
    have hde : (TT.node g l e wt r).deep = 1 + max l.deep r.deep := rfl
    rw [hde]
    have cL0 : w.cell? ⟨g, 11, none⟩ = some (.pointer l.adr) := BK.cell 11
    have cR0 : w.cell? ⟨g, 12, none⟩ = some (.pointer r.adr) := BK.cell 12
    have cL := cell_regrown cL0
    have cR := cell_regrown cR0
    clear cL0 cR0
    have kL : ∀ d os, Calls Tryd.prog 65 #[.pointer l.adr] (grow (redrawn w d) os) fun e w'' => e = .returned (.int .i64 l.deep) ∧ ∃ p : Regrown, w'' = grow (redrawn w p.d) p.os :=
      fun d os => Calls.regrown_of (ihl _ (TT.In.more (below_regrown w d os).size (hl.below (below_regrown w d os))) (by omega))
    have kR : ∀ d os, Calls Tryd.prog 65 #[.pointer r.adr] (grow (redrawn w d) os) fun e w'' => e = .returned (.int .i64 r.deep) ∧ ∃ p : Regrown, w'' = grow (redrawn w p.d) p.os :=
      fun d os => Calls.regrown_of (ihr _ (TT.In.more (below_regrown w d os).size (hr.below (below_regrown w d os))) (by omega))
    clear ihl ihr hl hr BK hd hde
    generalize l.deep = a at *
    generalize r.deep = b at *
    have hm : (max (a : Int) b) = ((max a b : Nat) : Int) := by omega
    have hrg : ((max a b : Nat) : Int) ≤ 1000000 := by omega
    generalize max a b = c at *
    simp only [adr_node]
    go_enter Tryd.func65, Tryd.ntmps65
    go_upto_region 3 with fail
    refine wp_region_quiet_below (by kernel_rfl) (by kernel_rfl) ?_
    iterate 4 (go_big_quiet_step (fail))
    go_big_quiet_step (exact kL _ _)
    iterate 4 (go_big_quiet_step (fail))
    go_big_quiet_step (exact kR _ _)
    go_big_quiet_step (fail)
    clear hm
    repeat (go_big_quiet_step (fail))
    refine wpQuiet_nil ?_
    rintro w1 ⟨⟨dq, osq⟩, rfl⟩
    have hb9 := below_regrown w dq osq
    clear cL cR kL kR
    go_wp2_with fail
    go_ret
    exact ⟨by go_num, hb9⟩

set_option maxRecDepth 100000 in
theorem tree_Deep (h k : Nat) (t : TT) (w : World) (hb : Blk w h 27 #[.pointer t.adr, .int .i64 k]) (ht : t.In w w.heap.size) (hd : t.deep ≤ 1000000) :
    Calls Tryd.prog 22 #[.pointer (some ⟨h, 0, none⟩)] w fun e w' => e = .returned (.int .i64 t.deep) ∧ Below w.heap.size w w' := by
  have c0 : w.cell? ⟨h, 0, none⟩ = some (.pointer t.adr) := hb.cell 0
  have HD := Lib.hid (mem_deep t w ht hd)
  clear hb ht hd
  go_enter Tryd.func22, Tryd.ntmps22
  go_wp2_with fail
  refine HD.out.mono ?_
  rintro x w1 ⟨rfl, b1⟩
  go_wp2_with fail
  go_ret
  exact ⟨rfl, b1⟩

set_option maxRecDepth 100000 in
set_option maxHeartbeats 1000000 in
theorem law13_bounds (d n : Nat) (w : World) (hn : n ≤ 1000000) :
    Calls Tryd.prog 21 #[.int .i64 d, .int .i64 n] w fun e w' => e = .returned (.bool (decide (d ≤ n) && decide (blen n ≤ d))) ∧ w = w' := by
  have hbl : blen n ≤ 20 := blen_le 20 n (by omega)
  obtain ⟨L, hL⟩ : ∃ L, blen n = L := ⟨_, rfl⟩
  have HL := Lib.hid hL
  rw [hL] at hbl ⊢
  clear hL
  obtain ⟨R, hR⟩ : ∃ R, (decide (d ≤ n) && decide (L ≤ d)) = R := ⟨_, rfl⟩
  have HR := Lib.hid hR
  rw [hR]
  clear hR
  go_enter Tryd.func21, Tryd.ntmps21
  go_wp2_with fail
  go_loop [5, 6] (fun v5 v6 => ∃ a b : Nat, v5 = .int .i64 a ∧ v6 = .int .i64 b ∧ b ≤ n ∧ a + blen b = L) (fun _ v6 => (RowKit.intOf v6).toNat)
  case atStart => exact ⟨0, n, rfl, rfl, Nat.le_refl _, by rw [HL.out]; omega⟩
  case round =>
    obtain ⟨a, b, rfl, rfl, hbn, hab⟩ := hrel
    have hst := blen_step b
    by_cases h0 : b = 0
    · subst h0
      rw [if_pos rfl] at hst
      have haL : a = L := by omega
      subst haL
      by_cases hdn : d ≤ n
      · go_wp2_with fail
        go_ret
        exact ⟨by rw [← HR.out, decide_eq_true hdn, Bool.true_and]; rfl, rfl⟩
      · go_wp2_with fail
        go_ret
        exact ⟨by rw [← HR.out, decide_eq_false hdn, Bool.false_and]; rfl, rfl⟩
    · rw [if_neg h0] at hst
      have hpos : 0 < b := by omega
      have ha20 : a ≤ 20 := by omega
      go_wp2_with fail
      go_roundw
      case rel => exact ⟨a + 1, b / 2, by go_num, by go_num, by omega, by omega⟩
      case measure => simp [RowKit.intOf]; omega
end Go.Proofs.YthbhbechemnidaaDoor
