/- Contract of Hist.Share at 50 of a hundred, of four numbers. -/
import Derived.Test.YtfebncpfhdgkpaaHistC
namespace Go.Proofs.Ytfebncpfhdgkpaa
open Go.RowKit Go.Sort Go.Shelf
attribute [local go_sem] Oper.semAt_some

/-- The greatest number of the first bucket that is enough. -/
def shR : List (Nat × Int) → Int → Int
  | [], _ => 0
  | x :: r, a => if 2 ≤ add50 a x.2 then bdHi (x.1 : Nat) else shR r (add50 a x.2)
def nF (xs : List (Nat × Int)) : Int := xs.foldl (fun a x => add50 a x.2) 0
theorem nF_snoc (xs : List (Nat × Int)) (x : Nat × Int) : nF (xs ++ [x]) = add50 (nF xs) x.2 := by simp [nF]
theorem smU_app (H : List Int) (i : Nat) (hi : i ≤ 24) : ∃ r, smU H 24 = smU H i ++ r := by
  refine ⟨((List.range (24 - i)).map (i + ·)).filterMap fun j => if 0 < H.getD j 0 then some (j, H.getD j 0) else none, ?_⟩
  unfold smU
  have e : List.range 24 = List.range i ++ (List.range (24 - i)).map (i + ·) := by
    have := List.range_add (n := i) (m := 24 - i)
    rw [show i + (24 - i) = 24 by omega] at this
    exact this
  rw [e, List.filterMap_append]

set_option maxRecDepth 100000 in
set_option maxHeartbeats 2000000 in
theorem hist_Share (H : List Int) (hl : H.length = 24) (h4 : lenF H = 4) (w : World) : Calls Try.prog 64 #[.agg (hv H), .int .i64 50] w fun e w' => e = .returned (.int .i64 (shR (smU H 24) 0)) ∧ Below w.heap.size w w' := by
  refine (callsIn_wide (n := 6)).1 ?_
  refine callsIn_of_wp_marks Try.func64 rfl trivial ?_ rfl
  simp only [Try.ntmps64, List.size_toArray, List.length_cons, List.length_nil, Nat.reduceAdd, Nat.reduceSub, Array.replicate_succ, Array.replicate_zero, List.push_toArray, List.append_toArray, List.nil_append, List.cons_append]
  have hsz := hv_size H hl
  have HSm := Lib.hid (fun w => hist_Some H w)
  have HLn := hist_Len H hl (((w.alloc (.cells (hv H) 29))).alloc (.cells #[.int .i64 0] 3))
  rw [h4] at HLn
  have B2 := (Blk.new w 29 (hv H)).alloc (.cells #[.int .i64 0] 3)
  have B4 := Blk.new (w.alloc (.cells (hv H) 29)) 3 #[.int .i64 0]
  rw [World.size_alloc] at B4
  have hB : Below w.heap.size w ((w.alloc (.cells (hv H) 29)).alloc (.cells #[.int .i64 0] 3)) := ((Below.refl _ _).alloc (Nat.le_refl _) _).alloc (by simp) _
  gi_wp2_with (refine wpListIn_load_row rfl _ _ rfl w.heap.size rfl 29 (hv H) (0, 0) _ B2 Try.underlying29 rfl hsz ?_)
  refine ⟨trivial, ?_⟩
  refine (callsIn_wide.2 HLn).mono ?_
  rintro e w1 ⟨rfl, b1⟩
  replace B2 := B2.below b1 B2.lt
  replace B4 := B4.below b1 B4.lt
  replace hB := hB.trans (b1.mono hB.size)
  have h46 := B4.lt
  clear b1 HLn
  have B6 := (Blk.new w1 3 #[.int .i64 2]).alloc (.cells #[.int .i64 0] 3)
  have B7 := Blk.new (w1.alloc (.cells #[.int .i64 2] 3)) 3 #[.int .i64 0]
  rw [World.size_alloc] at B7
  replace B2 := (B2.alloc (.cells #[.int .i64 2] 3)).alloc (.cells #[.int .i64 0] 3)
  replace B4 := (B4.alloc (.cells #[.int .i64 2] 3)).alloc (.cells #[.int .i64 0] 3)
  have hw1 := hB.size
  replace hB := (hB.alloc hB.size (.cells #[.int .i64 2] 3)).alloc (by simp; omega) (.cells #[.int .i64 0] 3)
  gi_wp2_with (refine wpListIn_load_row rfl _ _ rfl w.heap.size rfl 29 (hv H) (0, 0) _ B2 Try.underlying29 rfl hsz ?_)
  refine ⟨trivial, ?_⟩
  refine (callsIn_wide.2 (HSm.out _)).mono ?_
  rintro e w' ⟨rfl, rfl⟩
  have hs9 : ((w1.alloc (.cells #[.int .i64 2] 3)).alloc (.cells #[.int .i64 0] 3)).heap.size = w1.heap.size + 2 := by simp
  generalize (w1.alloc (.cells #[.int .i64 2] 3)).alloc (.cells #[.int .i64 0] 3) = W9 at *
  have Bh := Blk.new W9 29 (hv H)
  replace B4 := B4.alloc (.cells (hv H) 29)
  replace B6 := B6.alloc (.cells (hv H) 29)
  replace B7 := B7.alloc (.cells (hv H) 29)
  replace hB := hB.alloc hB.size (.cells (hv H) 29)
  have hs0 : (W9.alloc (.cells (hv H) 29)).heap.size = w1.heap.size + 3 := by simp; omega
  have HS0 := Lib.hid hs0
  clear HSm B2 hs0 hs9
  gi_wp2
  generalize W9.alloc (.cells (hv H) 29) = W0 at *
  have HST := some_stops 5 W9.heap.size H hl W0 Bh
  generalize w1.heap.size = g6 at *
  generalize W9.heap.size = g9 at *
  generalize hv H = cs at *
  refine wpIn_rangeFunc_ownF (w := W0) rfl (by decide) (gf := 104) (lb := #[.pointer (some ⟨g9, 0, none⟩)]) rfl trivial (enters_of Try.func104 (by kernel_rfl) rfl)
    HST (fun _ _ => trivial) (fun _ _ _ _ _ _ _ _ => trivial) (Below.refl _ _) (fun _ => rfl)
    (fun pre W => (W.cell? ⟨g6 + 1, 0, none⟩ = some (.int .i64 (nF pre)) ∧ W.frozen? ⟨g6 + 1, 0, none⟩ = false ∧ W.cell? ⟨g6, 0, none⟩ = some (.int .i64 2) ∧ W.cell? ⟨w.heap.size + 1, 0, none⟩ = some (.int .i64 0) ∧ W.frozen? ⟨w.heap.size + 1, 0, none⟩ = false ∧ (∀ r, shR (pre ++ r) 0 = shR r (nF pre))) ∧ Below w.heap.size w W)
    (fun c pre W => (c = .ret ∧ ∃ v, W.cell? ⟨w.heap.size + 1, 0, none⟩ = some (.int .i64 v) ∧ ∀ r, shR (pre ++ r) 0 = v) ∧ Below w.heap.size w W)
    (OwnFrom.and (Own.from (fun s A B row hs hg hr => ⟨cell_kept hs.1 hg hr, (frozen_kept hs.1 hg hr).trans hs.2.1, cell_kept hs.2.2.1 hg hr, cell_kept hs.2.2.2.1 hg hr, (frozen_kept hs.2.2.2.1 hg hr).trans hs.2.2.2.2.1, hs.2.2.2.2.2⟩) _) (ownFrom_below (Nat.le_refl _) (by have := HS0.out; omega)))
    (fun c => OwnFrom.and (Own.from (fun s A B row hs hg hr => ⟨hs.1, hs.2.elim fun v hv => ⟨v, cell_kept hv.1 hg hr, hv.2⟩⟩) _) (ownFrom_below (Nat.le_refl _) (by have := HS0.out; omega)))
    ⟨⟨B7.cell 0, B7.frozen 0, B6.cell 0, B4.cell 0, B4.frozen 0, fun r => rfl⟩, hB⟩
    (fun x => { tmps := #[.agg cs, .int .i64 50, .pointer (some ⟨w.heap.size, 0, none⟩), undef, .pointer (some ⟨w.heap.size + 1, 0, none⟩), .int .i64 4, .pointer (some ⟨g6, 0, none⟩), .pointer (some ⟨g6 + 1, 0, none⟩), .int .i64 (x.1 : Nat), .int .i64 x.2, undef, undef, undef, .agg cs, .int .i64 4, .int .i64 4, .int .i64 4, .int .i64 50, .int .i64 50, .int .i64 50, .int .i64 200, .int .i64 299, .int .i64 2, .agg cs, .func (.func 104) #[] #[.pointer (some ⟨g9, 0, none⟩)], .int .i64 (x.1 : Nat), .int .i64 x.2, undef, undef, undef, undef, undef, undef, undef, undef, undef, undef, undef, undef, undef], defers := [] }) ?assign ?body ?done ?stop
  case assign =>
    intro l x W K hK
    unfold encS
    gi_wp2
    exact hK
  case body =>
    rintro l pre ⟨i, k⟩ W ⟨⟨h7, f7, h6, h4', f4, hre⟩, hB⟩ hpl
    have hsn := nF_snoc pre (i, k)
    dsimp only at hsn ⊢
    have hW1 := hB.size
    have e7 := World.cell?_setCell_same' W ⟨g6 + 1, 0, none⟩ (.int .i64 (add50 (nF pre) k)) (by rw [h7]; rfl)
    have e6 : (W.setCell ⟨g6 + 1, 0, none⟩ (.int .i64 (add50 (nF pre) k))).cell? ⟨g6, 0, none⟩ = some (.int .i64 2) := by rw [World.cell?_setCell_other _ _ _ _ (by simp)]; exact h6
    have e4 : (W.setCell ⟨g6 + 1, 0, none⟩ (.int .i64 (add50 (nF pre) k))).cell? ⟨w.heap.size + 1, 0, none⟩ = some (.int .i64 0) := by rw [World.cell?_setCell_other _ _ _ _ (fun e => by injection e with e; omega)]; exact h4'
    have k1 := KeepsOthers.setCell W ⟨g6 + 1, 0, none⟩ (.int .i64 (add50 (nF pre) k))
    have hB1 := hB.setCell (p := ⟨g6 + 1, 0, none⟩) (show w.heap.size ≤ g6 + 1 by omega) (.int .i64 (add50 (nF pre) k))
    have f7' : (W.setCell ⟨g6 + 1, 0, none⟩ (.int .i64 (add50 (nF pre) k))).frozen? ⟨g6 + 1, 0, none⟩ = false := by rw [World.frozen?_setCell]; exact f7
    have f4' : (W.setCell ⟨g6 + 1, 0, none⟩ (.int .i64 (add50 (nF pre) k))).frozen? ⟨w.heap.size + 1, 0, none⟩ = false := by rw [World.frozen?_setCell]; exact f4
    have HRE := Lib.hid hre
    clear hre
    by_cases hge : 2 ≤ add50 (nF pre) k
    · gi_wp2_with (refine ⟨trivial, ?_⟩; gi_at_call 65; refine (CallsIn.inRound l (callsIn_wide.2 (nums_Add _ _ _))).mono ?_; rintro e w' ⟨rfl, rfl⟩)
      generalize W.setCell ⟨g6 + 1, 0, none⟩ (.int .i64 (add50 (nF pre) k)) = W1 at *
      refine ⟨trivial, ?_⟩
      refine (CallsIn.inRound l (callsIn_wide.2 (hist_Bounds _ _))).mono ?_
      rintro e w2 ⟨rfl, b2⟩
      have hW1' := hB1.size
      have d4 := (b2.cell (p := ⟨w.heap.size + 1, 0, none⟩) (block_lt_of_cell e4)).trans e4
      have g4 := (b2.frozen (p := ⟨w.heap.size + 1, 0, none⟩) (block_lt_of_cell e4)).trans f4'
      have k2 := keeps_of_below b2
      have hB2 := hB1.trans (b2.mono hW1')
      generalize hv9 : bdHi (i : Nat) = v at *
      clear b2 e4 e6 e7 f7' f4'
      gi_wp2
      refine ⟨(k1.trans k2).trans (KeepsOthers.setCell _ _ _), ⟨rfl, v, World.cell?_setCell_same' _ _ _ (by rw [d4]; rfl), ?_⟩, hB2.setCell (p := ⟨w.heap.size + 1, 0, none⟩) (Nat.le_succ _) _⟩
      intro r
      rw [List.append_assoc, HRE.out, List.singleton_append]
      show (if 2 ≤ add50 (nF pre) k then bdHi (i : Nat) else shR r (add50 (nF pre) k)) = v
      rw [if_pos hge, hv9]
    · gi_wp2_with (refine ⟨trivial, ?_⟩; gi_at_call 65; refine (CallsIn.inRound l (callsIn_wide.2 (nums_Add _ _ _))).mono ?_; rintro e w' ⟨rfl, rfl⟩)
      refine ⟨k1, trivial, ⟨by rw [hsn]; exact e7, f7', e6, e4, f4', ?_⟩, hB1⟩
      intro r
      rw [List.append_assoc, HRE.out, List.singleton_append, hsn]
      show (if 2 ≤ add50 (nF pre) k then bdHi (i : Nat) else shR r (add50 (nF pre) k)) = _
      rw [if_neg (by omega)]
  case done =>
    rintro D ys W hD rfl ⟨⟨_, _, _, hc4, hf4, hre⟩, hB⟩ hK
    gi_wp2
    have hK' := (KeepsOthers.setCell W ⟨w.heap.size + 1, 0, none⟩ (.int .i64 0)).same D _ hK rfl
    refine ⟨by simp, .inl ⟨_, _, rfl, run_takeDeferred hK', ?_⟩⟩
    have hc5 := cell_kept (World.cell?_setCell_same' W ⟨w.heap.size + 1, 0, none⟩ (.int .i64 0) (by rw [hc4]; rfl)) (grownBy_putObj' _ D (.deferred none)) (fun r e => by cases e; exact ⟨_, hK', rfl⟩)
    have h0 : shR (smU H 24) 0 = 0 := by
      have := hre []
      rw [List.append_nil] at this
      rw [this]; rfl
    refine ⟨.int .i64 0, ?_, by rw [h0], (hB.setCell (p := ⟨w.heap.size + 1, 0, none⟩) (by simp) _).trans (belowK_b (w := w) (Nat.le_refl _) _ D _ _ (by have := HS0.out; omega) hK' rfl rfl)⟩
    simp [results, Try.results64, go_sem, hc5]
  case stop =>
    rintro D c pre W hD ⟨i, hi, rfl⟩ ⟨⟨rfl, v, hcr, hre⟩, hB⟩ hK
    gi_wp2
    refine ⟨by simp, .inl ⟨_, _, rfl, run_takeDeferred hK, ?_⟩⟩
    have hc5 := cell_kept hcr (grownBy_putObj' _ D (.deferred none)) (fun r e => by cases e; exact ⟨_, hK, rfl⟩)
    obtain ⟨r, hr⟩ := smU_app H i hi
    have h0 : shR (smU H 24) 0 = v := by rw [hr]; exact hre r
    refine ⟨.int .i64 v, ?_, by rw [h0], hB.trans (belowK_b (w := w) (Nat.le_refl _) W D _ _ (by have := HS0.out; omega) hK rfl rfl)⟩
    simp [results, Try.results64, go_sem, hc5]
end Go.Proofs.Ytfebncpfhdgkpaa
