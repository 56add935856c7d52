/- Contract of mem.put: a tree with a mutation more. -/
import Derived.Test.YthbhbechemnidaaMemU
import Derived.Test.YthbhbechemnidaaMixL
namespace Go.Proofs.Ythbhbechemnidaa
open Go.RowKit Go.Sort

/-- What put hands back: the tree, and whether the mutation is new. -/
def PutTo (w : World) (lo : Nat) (e0 : MutS) (t : TT) (e : Ending) (w' : World) : Prop :=
  ∃ t', e = .returned (.tuple #[.pointer t'.adr, .bool (insM e0.m t.list).2]) ∧ Anew w lo t t' w' ∧ t'.list = (insM e0.m t.list).1 ∧ ∃ g l x wx r, t' = TT.node g l x wx r
theorem adr_nil : TT.adr .nil = none := rfl
theorem adr_node (g : Nat) (l : TT) (e : MutS) (wt : Int) (r : TT) : (TT.node g l e wt r).adr = some ⟨g, 0, none⟩ := rfl
theorem Anew.drew {w w' : World} {lo : Nat} {t t' : TT} (h : Anew w lo t t' w') : Anew w lo t t' w'.drew := h.below (below_drewN (Below.refl w'.heap.size w') 1)
theorem OwnE.below {w w' : World} {lo : Nat} {e : MutS} (h : OwnE w lo e) (b : Below w.heap.size w w') : OwnE w' lo e := (Turned.of_below (G := []) b).ownE (fun _ h => by cases h) h
theorem OwnE.rd {w : World} {lo : Nat} {e : MutS} (h : OwnE w lo e) : Reads w w.heap.size 3 e.A e.n (e.m.ov.flatMap sc) := by
  have h1 := h.1
  unfold OwnSt at h1
  rw [h.2.1]
  have h2 := h.2.1
  have h3 : OwnSt w lo (.slice e.A e.m.ov.length e.c) e.m.ov := by rw [← h2]; exact h.1
  exact Reads.of_own h3

set_option maxRecDepth 100000 in
set_option maxHeartbeats 8000000 in
theorem mem_put (e0 : MutS) (wt : Int) (lo : Nat) : ∀ (t : TT) (w : World), OwnE w lo e0 → t.Lies w lo → t.gs.Nodup → WayM e0.m t → lo ≤ w.heap.size →
    Calls Try.prog 49 #[.pointer t.adr, .agg (mutC e0.m (.slice e0.A e0.n e0.c)), .int .u32 wt] w (PutTo w lo e0 t) := by
  intro t
  induction t with
  | nil =>
    intro w hE _ _ _ hlo
    have BK := Blk.new w 33 (mutC e0.m (.slice e0.A e0.n e0.c))
    have b1 : Below w.heap.size w (w.alloc (.cells (mutC e0.m (.slice e0.A e0.n e0.c)) 33)) := (Below.refl _ _).alloc (Nat.le_refl _) _
    have b2 := b1.alloc b1.size (.cells (nodeC e0 wt (.pointer none) (.pointer none)) 95)
    have BN := Blk.new (w.alloc (.cells (mutC e0.m (.slice e0.A e0.n e0.c)) 33)) 95 (nodeC e0 wt (.pointer none) (.pointer none))
    have HE := Lib.hid (hE.below b2)
    have hA := Lib.hid (show Anew w lo .nil (TT.node (w.heap.size + 1) .nil e0 wt .nil) ((w.alloc (.cells (mutC e0.m (.slice e0.A e0.n e0.c)) 33)).alloc (.cells (nodeC e0 wt (.pointer none) (.pointer none)) 95)) from
      ⟨⟨by omega, by rw [World.size_alloc] at BN; exact BN, HE.out, trivial, trivial⟩, by simp [TT.gs], fun q hq => .inr (by rcases List.mem_cons.1 hq with rfl | hq; omega; cases hq), Turned.of_below b2⟩)
    have c0 : (w.alloc (.cells (mutC e0.m (.slice e0.A e0.n e0.c)) 33)).cell? ⟨w.heap.size, 0, none⟩ = some (.int .i64 e0.m.tab) := BK.cell 0
    have c1 : (w.alloc (.cells (mutC e0.m (.slice e0.A e0.n e0.c)) 33)).cell? ⟨w.heap.size, 1, none⟩ = some (.int .i64 e0.m.kind) := BK.cell 1
    have c2 : (w.alloc (.cells (mutC e0.m (.slice e0.A e0.n e0.c)) 33)).cell? ⟨w.heap.size, 2, none⟩ = some (.string e0.m.key) := BK.cell 2
    have c3 : (w.alloc (.cells (mutC e0.m (.slice e0.A e0.n e0.c)) 33)).cell? ⟨w.heap.size, 3, none⟩ = some (.string e0.m.en) := BK.cell 3
    have c4 : (w.alloc (.cells (mutC e0.m (.slice e0.A e0.n e0.c)) 33)).cell? ⟨w.heap.size, 4, none⟩ = some (.string e0.m.val) := BK.cell 4
    have c5 : (w.alloc (.cells (mutC e0.m (.slice e0.A e0.n e0.c)) 33)).cell? ⟨w.heap.size, 5, none⟩ = some (.int .i64 e0.m.exp) := BK.cell 5
    have c6 : (w.alloc (.cells (mutC e0.m (.slice e0.A e0.n e0.c)) 33)).cell? ⟨w.heap.size, 6, none⟩ = some (.int .i64 e0.m.at_.1) := BK.cell 6
    have c7 : (w.alloc (.cells (mutC e0.m (.slice e0.A e0.n e0.c)) 33)).cell? ⟨w.heap.size, 7, none⟩ = some (.int .i64 e0.m.at_.2.1) := BK.cell 7
    have c8 : (w.alloc (.cells (mutC e0.m (.slice e0.A e0.n e0.c)) 33)).cell? ⟨w.heap.size, 8, none⟩ = some (.int .i64 e0.m.at_.2.2) := BK.cell 8
    have c9 : (w.alloc (.cells (mutC e0.m (.slice e0.A e0.n e0.c)) 33)).cell? ⟨w.heap.size, 9, none⟩ = some (.slice e0.A e0.n e0.c) := BK.cell 9
    clear hE BN b1 b2 BK
    simp only [adr_nil]
    go_enter Try.func49, Try.ntmps49
    go_wp2_with fail
    go_returns
    exact ⟨TT.node (w.heap.size + 1) .nil e0 wt .nil, rfl, hA.out, rfl, _, _, _, _, _, rfl⟩
  | node g tl x wx tr IHl IHr =>
    intro w hE hL hN hW hlo
    have BK := Blk.new w 33 (mutC e0.m (.slice e0.A e0.n e0.c))
    have b1 : Below w.heap.size w (w.alloc (.cells (mutC e0.m (.slice e0.A e0.n e0.c)) 33)) := (Below.refl _ _).alloc (Nat.le_refl _) _
    have a1 := (Anew.refl hL hN).below b1
    have e1 := hE.below b1
    have HN := Lib.hid hN
    have HW := Lib.hid hW
    obtain ⟨n1, n2, n3, n4, n5⟩ := nodup_parts hN
    have hgl : g < w.heap.size := hL.2.1.lt
    have HLl := Lib.hid (hL.2.2.2.1.lt)
    have HLr := Lib.hid (hL.2.2.2.2.lt)
    have HND := Lib.hid (And.intro n1 (And.intro n2 (And.intro n3 n4)))
    have hb1s := b1.size
    obtain ⟨R, hR⟩ : ∃ R, cmpMem e0.m x.m = R := ⟨_, rfl⟩
    have HR := Lib.hid hR
    clear hN hW n1 n2 n3 n4 n5 hL hE
    simp only [adr_node]
    go_enter Try.func49, Try.ntmps49
    go_upto_region 4 with fail
    change Code.wp _ _ _ _ (w.alloc (.cells (mutC e0.m (.slice e0.A e0.n e0.c)) 33))
    generalize w.alloc (.cells (mutC e0.m (.slice e0.A e0.n e0.c)) 33) = W at *
    have BG : Blk W g 95 (nodeC x wx (.pointer tl.adr) (.pointer tr.adr)) := a1.lies.2.1
    have C4 := Lib.hid (mem_Compare e0.m x.m e0.A x.A e0.n e0.c x.n x.c W.drew (e1.rd.drewN 1) (OwnE.rd a1.lies.2.2.1 |>.drewN 1) e1.2.2.1)
    rw [hR] at C4
    unfold mutC at C4
    clear hR
    have q0 : ∀ p : Kept (fun _ => True) W.drew, p.v.cell? ⟨w.heap.size, 0, none⟩ = some (.int .i64 e0.m.tab) := fun p => p.h.cell (trivial) (BK.drew.cell 0)
    have q1 : ∀ p : Kept (fun _ => True) W.drew, p.v.cell? ⟨w.heap.size, 1, none⟩ = some (.int .i64 e0.m.kind) := fun p => p.h.cell (trivial) (BK.drew.cell 1)
    have q2 : ∀ p : Kept (fun _ => True) W.drew, p.v.cell? ⟨w.heap.size, 2, none⟩ = some (.string e0.m.key) := fun p => p.h.cell (trivial) (BK.drew.cell 2)
    have q3 : ∀ p : Kept (fun _ => True) W.drew, p.v.cell? ⟨w.heap.size, 3, none⟩ = some (.string e0.m.en) := fun p => p.h.cell (trivial) (BK.drew.cell 3)
    have q4 : ∀ p : Kept (fun _ => True) W.drew, p.v.cell? ⟨w.heap.size, 4, none⟩ = some (.string e0.m.val) := fun p => p.h.cell (trivial) (BK.drew.cell 4)
    have q5 : ∀ p : Kept (fun _ => True) W.drew, p.v.cell? ⟨w.heap.size, 5, none⟩ = some (.int .i64 e0.m.exp) := fun p => p.h.cell (trivial) (BK.drew.cell 5)
    have q6 : ∀ p : Kept (fun _ => True) W.drew, p.v.cell? ⟨w.heap.size, 6, none⟩ = some (.int .i64 e0.m.at_.1) := fun p => p.h.cell (trivial) (BK.drew.cell 6)
    have q7 : ∀ p : Kept (fun _ => True) W.drew, p.v.cell? ⟨w.heap.size, 7, none⟩ = some (.int .i64 e0.m.at_.2.1) := fun p => p.h.cell (trivial) (BK.drew.cell 7)
    have q8 : ∀ p : Kept (fun _ => True) W.drew, p.v.cell? ⟨w.heap.size, 8, none⟩ = some (.int .i64 e0.m.at_.2.2) := fun p => p.h.cell (trivial) (BK.drew.cell 8)
    have q9 : ∀ p : Kept (fun _ => True) W.drew, p.v.cell? ⟨w.heap.size, 9, none⟩ = some (.slice e0.A e0.n e0.c) := fun p => p.h.cell (trivial) (BK.drew.cell 9)
    have t0 : ∀ p : Kept (fun _ => True) W.drew, p.v.cell? ⟨g, 0, none⟩ = some (.int .i64 x.m.tab) := fun p => p.h.cell (trivial) (BG.drew.cell 0)
    have t1 : ∀ p : Kept (fun _ => True) W.drew, p.v.cell? ⟨g, 1, none⟩ = some (.int .i64 x.m.kind) := fun p => p.h.cell (trivial) (BG.drew.cell 1)
    have t2 : ∀ p : Kept (fun _ => True) W.drew, p.v.cell? ⟨g, 2, none⟩ = some (.string x.m.key) := fun p => p.h.cell (trivial) (BG.drew.cell 2)
    have t3 : ∀ p : Kept (fun _ => True) W.drew, p.v.cell? ⟨g, 3, none⟩ = some (.string x.m.en) := fun p => p.h.cell (trivial) (BG.drew.cell 3)
    have t4 : ∀ p : Kept (fun _ => True) W.drew, p.v.cell? ⟨g, 4, none⟩ = some (.string x.m.val) := fun p => p.h.cell (trivial) (BG.drew.cell 4)
    have t5 : ∀ p : Kept (fun _ => True) W.drew, p.v.cell? ⟨g, 5, none⟩ = some (.int .i64 x.m.exp) := fun p => p.h.cell (trivial) (BG.drew.cell 5)
    have t6 : ∀ p : Kept (fun _ => True) W.drew, p.v.cell? ⟨g, 6, none⟩ = some (.int .i64 x.m.at_.1) := fun p => p.h.cell (trivial) (BG.drew.cell 6)
    have t7 : ∀ p : Kept (fun _ => True) W.drew, p.v.cell? ⟨g, 7, none⟩ = some (.int .i64 x.m.at_.2.1) := fun p => p.h.cell (trivial) (BG.drew.cell 7)
    have t8 : ∀ p : Kept (fun _ => True) W.drew, p.v.cell? ⟨g, 8, none⟩ = some (.int .i64 x.m.at_.2.2) := fun p => p.h.cell (trivial) (BG.drew.cell 8)
    have t9 : ∀ p : Kept (fun _ => True) W.drew, p.v.cell? ⟨g, 9, none⟩ = some (.slice x.A x.n x.c) := fun p => p.h.cell (trivial) (BG.drew.cell 9)
    refine wp_region_mixDk (M := []) (fun _ => True) [0, 1, 2, 3, 4, 5, 6] (by kernel_rfl) (by kernel_rfl) ?_
    iterate 2 (refine mix_calmDk rfl rfl ?_; go_big_quiet_step (fail); refine wpQuiet_nil ?_)
    refine mix_loudDk rfl (by kernel_rfl) rfl ?_
    intro K1 hK1
    have HK := Lib.hid hK1
    clear hK1 
    go_wp2_with fail
    refine HK.out _ _ (Stand.refl _ _) ?_
    clear HK
    iterate 2 (refine mix_calmDk rfl rfl ?_; go_big_quiet_step (fail); refine wpQuiet_nil ?_)
    refine mix_loudDk rfl (by kernel_rfl) rfl ?_
    intro K1 hK1
    have HK := Lib.hid hK1
    clear hK1 q0 q1 q2 q3 q4 q5 q6 q7 q8 q9 t0 t1 t2 t3 t4 t5 t6 t7 t8 t9
    go_wp2_with fail
    refine (C4.out).mono ?_
    rintro x w4 ⟨rfl, b4⟩
    have HS9 := Lib.hid (Stand.of_below (S := fun _ => True) b4)
    have b4' : Below W.heap.size W w4 := (below_drewN (Below.refl W.heap.size W) 1).trans b4
    replace a1 := a1.below b4'
    replace e1 := e1.below b4'
    replace BK := BK.below b4' BK.lt
    have hs4 : W.heap.size ≤ w4.heap.size := b4'.size
    clear b4 b4' C4 BG
    go_wp2_with fail
    refine HK.out _ _ (HS9.out) ?_
    clear HK
    clear HS9
    iterate 1 (refine mix_calmDk rfl rfl ?_; go_big_quiet_step (fail); refine wpQuiet_nil ?_)
    refine mix_endDk ?_
    have hs0 := BK.lt
    rcases Int.lt_trichotomy R 0 with hlt | heq | hgt
    · have d1 : (R == 0) = false := by simp; omega
      have d2 : decide (R < 0) = true := by simp; omega
      have hR0 := Lib.hid hlt
      clear hlt
      go_upto_region 13 with fail
      have BG : Blk w4 g 95 (nodeC x wx (.pointer tl.adr) (.pointer tr.adr)) := a1.lies.2.1
      have hgb : g < w4.heap.size ∧ w.heap.size < w4.heap.size := ⟨BG.lt, hs0⟩
      have q0 : ∀ p : Kept (fun k => k = w.heap.size) w4.drew, p.v.cell? ⟨w.heap.size, 0, none⟩ = some (.int .i64 e0.m.tab) := fun p => p.h.cell (rfl) (BK.drew.cell 0)
      have q1 : ∀ p : Kept (fun k => k = w.heap.size) w4.drew, p.v.cell? ⟨w.heap.size, 1, none⟩ = some (.int .i64 e0.m.kind) := fun p => p.h.cell (rfl) (BK.drew.cell 1)
      have q2 : ∀ p : Kept (fun k => k = w.heap.size) w4.drew, p.v.cell? ⟨w.heap.size, 2, none⟩ = some (.string e0.m.key) := fun p => p.h.cell (rfl) (BK.drew.cell 2)
      have q3 : ∀ p : Kept (fun k => k = w.heap.size) w4.drew, p.v.cell? ⟨w.heap.size, 3, none⟩ = some (.string e0.m.en) := fun p => p.h.cell (rfl) (BK.drew.cell 3)
      have q4 : ∀ p : Kept (fun k => k = w.heap.size) w4.drew, p.v.cell? ⟨w.heap.size, 4, none⟩ = some (.string e0.m.val) := fun p => p.h.cell (rfl) (BK.drew.cell 4)
      have q5 : ∀ p : Kept (fun k => k = w.heap.size) w4.drew, p.v.cell? ⟨w.heap.size, 5, none⟩ = some (.int .i64 e0.m.exp) := fun p => p.h.cell (rfl) (BK.drew.cell 5)
      have q6 : ∀ p : Kept (fun k => k = w.heap.size) w4.drew, p.v.cell? ⟨w.heap.size, 6, none⟩ = some (.int .i64 e0.m.at_.1) := fun p => p.h.cell (rfl) (BK.drew.cell 6)
      have q7 : ∀ p : Kept (fun k => k = w.heap.size) w4.drew, p.v.cell? ⟨w.heap.size, 7, none⟩ = some (.int .i64 e0.m.at_.2.1) := fun p => p.h.cell (rfl) (BK.drew.cell 7)
      have q8 : ∀ p : Kept (fun k => k = w.heap.size) w4.drew, p.v.cell? ⟨w.heap.size, 8, none⟩ = some (.int .i64 e0.m.at_.2.2) := fun p => p.h.cell (rfl) (BK.drew.cell 8)
      have q9 : ∀ p : Kept (fun k => k = w.heap.size) w4.drew, p.v.cell? ⟨w.heap.size, 9, none⟩ = some (.slice e0.A e0.n e0.c) := fun p => p.h.cell (rfl) (BK.drew.cell 9)
      have t11 : w4.drew.cell? ⟨g, 11, none⟩ = some (.pointer tl.adr) := BG.drew.cell 11
      have a4 := Lib.hid a1.drew
      have CI := Lib.hid (IHl w4.drew (e1.below (below_drewN (Below.refl w4.heap.size w4) 1)) a4.out.lies.2.2.2.1 HND.out.2.2.1 HW.out.1 (Nat.le_trans hlo a4.out.tr.size))
      unfold mutC at CI
      refine wp_region_mixL (fun k => k = w.heap.size) [2, 4, 11] [0, 1, 5, 6, 2, 3, 4, 7, 8, 9, 10, 11, 12, 13, 14] (by kernel_rfl) (by kernel_rfl) ?_
      iterate 4 (refine mix_calmL rfl rfl ?_; go_big_quiet_step (fail); refine wpQuiet_nil ?_)
      refine mix_loudL rfl (by kernel_rfl) ?_
      intro K1 hK1
      have HK := Lib.hid hK1
      clear hK1 
      go_wp2_with fail
      refine HK.out _ _ (Stand.refl _ _) ?_
      clear HK
      iterate 1 (refine mix_calmL rfl rfl ?_; go_big_quiet_step (fail); refine wpQuiet_nil ?_)
      refine mix_loudL rfl (by kernel_rfl) ?_
      intro K1 hK1
      have HK := Lib.hid hK1
      clear hK1 
      go_wp2_with fail
      refine HK.out _ _ (Stand.refl _ _) ?_
      clear HK
      refine mix_loudL rfl (by kernel_rfl) ?_
      intro K1 hK1
      have HK := Lib.hid hK1
      clear hK1 q0 q1 q2 q3 q4 q5 q6 q7 q8 q9 t11
      go_wp2_with fail
      refine (CI.out).mono ?_
      rintro x w5 ⟨y, rfl, a5, hy, hnode⟩
      have HS9 : Hid (Stand (fun k => k = g ∨ k = w.heap.size) w4.drew w5) := Lib.hid ⟨a5.tr.os, a5.tr.tape, a5.tr.output, a5.tr.size, fun k hk hs => a5.tr.block k hk (by
        rcases hs with rfl | rfl
        · exact HND.out.1
        · intro h9
          exact absurd (HLl.out _ h9) (Nat.lt_irrefl _))⟩
      obtain ⟨gl, ll, el, wl, lr, rfl⟩ := hnode
      have BG5 : Blk w5 g 95 (nodeC x wx (.pointer tl.adr) (.pointer tr.adr)) := HS9.out.blk (.inl rfl) BG.drew
      have fg := BG5.frozen
      have c11 : w5.cell? ⟨g, 11, none⟩ = some (.pointer tl.adr) := BG5.cell 11
      have A6 := anew_left (l := tl) (r := tr) a4.out.lies HN.out a5
      simp only [TT.ptr, adr_node] at A6
      have A7 := Lib.hid (a4.out.then_ A6)
      have HF : Hid (insM e0.m (TT.node g tl x wx tr).list = ((TT.node g (TT.node gl ll el wl lr) x wx tr).list, (insM e0.m tl.list).2)) := Lib.hid (by
        show insM e0.m (tl.list ++ x.m :: tr.list) = _
        rw [insM_left e0.m x.m tr.list (by rw [HR.out]; exact hR0.out) tl.list]
        show ((insM e0.m tl.list).1 ++ x.m :: tr.list, _) = _
        rw [← hy]
        simp [TT.list])
      have HF2 : Hid (insM e0.m (TT.node g tl x wx tr).list = ((TT.node gl ll el wl (TT.node g lr x wx tr)).list, (insM e0.m tl.list).2)) := Lib.hid (by
        rw [HF.out]
        simp [TT.list])
      simp only [adr_node]
      clear CI a5 hy A6 a4 BG5 BG BK hgb a1 e1 IHl IHr HLl HLr HND HW HN
      go_wp2_with fail
      refine HK.out _ _ ((HS9.out.mono (fun k hk => .inr hk))) ?_
      clear HK
      clear HS9
      iterate 3 (refine mix_calmL rfl rfl ?_; go_big_quiet_step (fail); refine wpQuiet_nil ?_)
      refine mix_loudL rfl (by kernel_rfl) ?_
      intro K1 hK1
      have HK := Lib.hid hK1
      clear hK1 
      go_wp2_with fail
      refine HK.out _ _ (Stand.refl _ _) ?_
      clear HK
      iterate 1 (refine mix_calmL rfl rfl ?_; go_big_quiet_step (fail); refine wpQuiet_nil ?_)
      refine mix_loudL rfl (by kernel_rfl) ?_
      intro K1 hK1
      have HK := Lib.hid hK1
      clear hK1 
      go_wp2_with fail
      refine HK.out _ _ (Stand.of_grown (only_set w5 g 11 _) (fun k hk hs => by injection hk with hk; omega)) ?_
      clear HK
      iterate 1 (refine mix_calmL rfl rfl ?_; go_big_quiet_step (fail); refine wpQuiet_nil ?_)
      refine mix_endL ?_
      clear fg c11
      generalize w5.setCell ⟨g, 11, none⟩ (.pointer (some ⟨gl, 0, none⟩)) = W6 at *
      have hl6 := A7.out.lies
      obtain ⟨_, bg, _, ⟨_, bl, _, _, _⟩, _⟩ := hl6
      have c11 : W6.cell? ⟨g, 11, none⟩ = some (.pointer (some ⟨gl, 0, none⟩)) := bg.cell 11
      have c10 : W6.cell? ⟨g, 10, none⟩ = some (.int .u32 wx) := bg.cell 10
      have k10 : W6.cell? ⟨gl, 10, none⟩ = some (.int .u32 wl) := bl.cell 10
      by_cases hwt : wx < wl
      · have dw : decide (wx < wl) = true := by simp [hwt]
        clear hwt
        go_upto_region 14 with fail
        go_region
        have A8 := Lib.hid A7.out.drew
        have A9 := turn_left A8.out.lies A8.out.nd
        have AX := Lib.hid (A8.out.then_ A9)
        clear A9
        have fg := bg.drew.frozen
        have fl := bl.drew.frozen
        have c11' : W6.drew.cell? ⟨g, 11, none⟩ = some (.pointer (some ⟨gl, 0, none⟩)) := bg.drew.cell 11
        have k12 : W6.drew.cell? ⟨gl, 12, none⟩ = some (.pointer lr.adr) := bl.drew.cell 12
        clear c11 c10 k10 A7 A8 bg bl
        generalize W6.drew = W7 at *
        go_wp2_with fail
        go_returns
        exact ⟨_, by rw [HF2.out]; rfl, AX.out, by rw [HF2.out], _, _, _, _, _, rfl⟩
      · have dw : decide (wx < wl) = false := by simp [hwt]
        clear hwt
        go_upto_region 14 with fail
        go_region
        have A8 := Lib.hid A7.out.drew
        clear c11 c10 k10 A7 bg bl
        go_wp2_with fail
        go_returns
        exact ⟨_, by rw [HF.out]; rfl, A8.out, by rw [HF.out], _, _, _, _, _, rfl⟩
    · subst heq
      have hi := ins_zero e0.m tl tr x HR.out (HW.out.2.2 (by rw [HR.out]; exact Int.le_refl _))
      have HI := Lib.hid hi
      clear hi
      go_wp2_with fail
      go_returns
      refine ⟨TT.node g tl x wx tr, ?_, a1, ?_, _, _, _, _, _, rfl⟩
      · show Ending.returned (.tuple #[.pointer (some ⟨g, 0, none⟩), .bool false]) = .returned (.tuple #[Value.pointer (TT.adr (.node g tl x wx tr)), .bool (insM e0.m (tl.list ++ x.m :: tr.list)).2])
        rw [HI.out]
        rfl
      · show tl.list ++ x.m :: tr.list = (insM e0.m (tl.list ++ x.m :: tr.list)).1
        rw [HI.out]
    · have d1 : (R == 0) = false := by simp; omega
      have d2 : decide (R < 0) = false := by simp; omega
      have hR0 := Lib.hid hgt
      clear hgt
      go_upto_region 5 with fail
      have BG : Blk w4 g 95 (nodeC x wx (.pointer tl.adr) (.pointer tr.adr)) := a1.lies.2.1
      have hgb : g < w4.heap.size ∧ w.heap.size < w4.heap.size := ⟨BG.lt, hs0⟩
      have q0 : ∀ p : Kept (fun k => k = w.heap.size) w4.drew, p.v.cell? ⟨w.heap.size, 0, none⟩ = some (.int .i64 e0.m.tab) := fun p => p.h.cell (rfl) (BK.drew.cell 0)
      have q1 : ∀ p : Kept (fun k => k = w.heap.size) w4.drew, p.v.cell? ⟨w.heap.size, 1, none⟩ = some (.int .i64 e0.m.kind) := fun p => p.h.cell (rfl) (BK.drew.cell 1)
      have q2 : ∀ p : Kept (fun k => k = w.heap.size) w4.drew, p.v.cell? ⟨w.heap.size, 2, none⟩ = some (.string e0.m.key) := fun p => p.h.cell (rfl) (BK.drew.cell 2)
      have q3 : ∀ p : Kept (fun k => k = w.heap.size) w4.drew, p.v.cell? ⟨w.heap.size, 3, none⟩ = some (.string e0.m.en) := fun p => p.h.cell (rfl) (BK.drew.cell 3)
      have q4 : ∀ p : Kept (fun k => k = w.heap.size) w4.drew, p.v.cell? ⟨w.heap.size, 4, none⟩ = some (.string e0.m.val) := fun p => p.h.cell (rfl) (BK.drew.cell 4)
      have q5 : ∀ p : Kept (fun k => k = w.heap.size) w4.drew, p.v.cell? ⟨w.heap.size, 5, none⟩ = some (.int .i64 e0.m.exp) := fun p => p.h.cell (rfl) (BK.drew.cell 5)
      have q6 : ∀ p : Kept (fun k => k = w.heap.size) w4.drew, p.v.cell? ⟨w.heap.size, 6, none⟩ = some (.int .i64 e0.m.at_.1) := fun p => p.h.cell (rfl) (BK.drew.cell 6)
      have q7 : ∀ p : Kept (fun k => k = w.heap.size) w4.drew, p.v.cell? ⟨w.heap.size, 7, none⟩ = some (.int .i64 e0.m.at_.2.1) := fun p => p.h.cell (rfl) (BK.drew.cell 7)
      have q8 : ∀ p : Kept (fun k => k = w.heap.size) w4.drew, p.v.cell? ⟨w.heap.size, 8, none⟩ = some (.int .i64 e0.m.at_.2.2) := fun p => p.h.cell (rfl) (BK.drew.cell 8)
      have q9 : ∀ p : Kept (fun k => k = w.heap.size) w4.drew, p.v.cell? ⟨w.heap.size, 9, none⟩ = some (.slice e0.A e0.n e0.c) := fun p => p.h.cell (rfl) (BK.drew.cell 9)
      have t11 : w4.drew.cell? ⟨g, 12, none⟩ = some (.pointer tr.adr) := BG.drew.cell 12
      have a4 := Lib.hid a1.drew
      have CI := Lib.hid (IHr w4.drew (e1.below (below_drewN (Below.refl w4.heap.size w4) 1)) a4.out.lies.2.2.2.2 HND.out.2.2.2 HW.out.2.1 (Nat.le_trans hlo a4.out.tr.size))
      unfold mutC at CI
      refine wp_region_mixL (fun k => k = w.heap.size) [2, 4, 11] [0, 1, 5, 6, 2, 3, 4, 7, 8, 9, 10, 11, 12, 13, 14] (by kernel_rfl) (by kernel_rfl) ?_
      iterate 4 (refine mix_calmL rfl rfl ?_; go_big_quiet_step (fail); refine wpQuiet_nil ?_)
      refine mix_loudL rfl (by kernel_rfl) ?_
      intro K1 hK1
      have HK := Lib.hid hK1
      clear hK1 
      go_wp2_with fail
      refine HK.out _ _ (Stand.refl _ _) ?_
      clear HK
      iterate 1 (refine mix_calmL rfl rfl ?_; go_big_quiet_step (fail); refine wpQuiet_nil ?_)
      refine mix_loudL rfl (by kernel_rfl) ?_
      intro K1 hK1
      have HK := Lib.hid hK1
      clear hK1 
      go_wp2_with fail
      refine HK.out _ _ (Stand.refl _ _) ?_
      clear HK
      refine mix_loudL rfl (by kernel_rfl) ?_
      intro K1 hK1
      have HK := Lib.hid hK1
      clear hK1 q0 q1 q2 q3 q4 q5 q6 q7 q8 q9 t11
      go_wp2_with fail
      refine (CI.out).mono ?_
      rintro x w5 ⟨y, rfl, a5, hy, hnode⟩
      have HS9 : Hid (Stand (fun k => k = g ∨ k = w.heap.size) w4.drew w5) := Lib.hid ⟨a5.tr.os, a5.tr.tape, a5.tr.output, a5.tr.size, fun k hk hs => a5.tr.block k hk (by
        rcases hs with rfl | rfl
        · exact HND.out.2.1
        · intro h9
          exact absurd (HLr.out _ h9) (Nat.lt_irrefl _))⟩
      obtain ⟨gl, ll, el, wl, lr, rfl⟩ := hnode
      have BG5 : Blk w5 g 95 (nodeC x wx (.pointer tl.adr) (.pointer tr.adr)) := HS9.out.blk (.inl rfl) BG.drew
      have fg := BG5.frozen
      have c11 : w5.cell? ⟨g, 12, none⟩ = some (.pointer tr.adr) := BG5.cell 12
      have A6 := anew_right (l := tl) (r := tr) a4.out.lies HN.out a5
      simp only [TT.ptr, adr_node] at A6
      have A7 := Lib.hid (a4.out.then_ A6)
      have HF : Hid (insM e0.m (TT.node g tl x wx tr).list = ((TT.node g tl x wx (TT.node gl ll el wl lr)).list, (insM e0.m tr.list).2)) := Lib.hid (by
        show insM e0.m (tl.list ++ x.m :: tr.list) = _
        rw [ins_right e0.m tl tr x (by rw [HR.out]; exact hR0.out) (HW.out.2.2 (by rw [HR.out]; exact Int.le_of_lt hR0.out))]
        show (tl.list ++ x.m :: (insM e0.m tr.list).1, _) = _
        rw [← hy]
        simp [TT.list])
      have HF2 : Hid (insM e0.m (TT.node g tl x wx tr).list = ((TT.node gl (TT.node g tl x wx ll) el wl lr).list, (insM e0.m tr.list).2)) := Lib.hid (by
        rw [HF.out]
        simp [TT.list])
      simp only [adr_node]
      clear CI a5 hy A6 a4 BG5 BG BK hgb a1 e1 IHl IHr HLl HLr HND HW HN
      go_wp2_with fail
      refine HK.out _ _ ((HS9.out.mono (fun k hk => .inr hk))) ?_
      clear HK
      clear HS9
      iterate 3 (refine mix_calmL rfl rfl ?_; go_big_quiet_step (fail); refine wpQuiet_nil ?_)
      refine mix_loudL rfl (by kernel_rfl) ?_
      intro K1 hK1
      have HK := Lib.hid hK1
      clear hK1 
      go_wp2_with fail
      refine HK.out _ _ (Stand.refl _ _) ?_
      clear HK
      iterate 1 (refine mix_calmL rfl rfl ?_; go_big_quiet_step (fail); refine wpQuiet_nil ?_)
      refine mix_loudL rfl (by kernel_rfl) ?_
      intro K1 hK1
      have HK := Lib.hid hK1
      clear hK1 
      go_wp2_with fail
      refine HK.out _ _ (Stand.of_grown (only_set w5 g 12 _) (fun k hk hs => by injection hk with hk; omega)) ?_
      clear HK
      iterate 1 (refine mix_calmL rfl rfl ?_; go_big_quiet_step (fail); refine wpQuiet_nil ?_)
      refine mix_endL ?_
      clear fg c11
      generalize w5.setCell ⟨g, 12, none⟩ (.pointer (some ⟨gl, 0, none⟩)) = W6 at *
      have hl6 := A7.out.lies
      obtain ⟨_, bg, _, _, ⟨_, bl, _, _, _⟩⟩ := hl6
      have c11 : W6.cell? ⟨g, 12, none⟩ = some (.pointer (some ⟨gl, 0, none⟩)) := bg.cell 12
      have c10 : W6.cell? ⟨g, 10, none⟩ = some (.int .u32 wx) := bg.cell 10
      have k10 : W6.cell? ⟨gl, 10, none⟩ = some (.int .u32 wl) := bl.cell 10
      by_cases hwt : wx < wl
      · have dw : decide (wx < wl) = true := by simp [hwt]
        clear hwt
        go_upto_region 6 with fail
        go_region
        have A8 := Lib.hid A7.out.drew
        have A9 := turn_right A8.out.lies A8.out.nd
        have AX := Lib.hid (A8.out.then_ A9)
        clear A9
        have fg := bg.drew.frozen
        have fl := bl.drew.frozen
        have c11' : W6.drew.cell? ⟨g, 12, none⟩ = some (.pointer (some ⟨gl, 0, none⟩)) := bg.drew.cell 12
        have k12 : W6.drew.cell? ⟨gl, 11, none⟩ = some (.pointer ll.adr) := bl.drew.cell 11
        clear c11 c10 k10 A7 A8 bg bl
        generalize W6.drew = W7 at *
        go_wp2_with fail
        go_returns
        exact ⟨_, by rw [HF2.out]; rfl, AX.out, by rw [HF2.out], _, _, _, _, _, rfl⟩
      · have dw : decide (wx < wl) = false := by simp [hwt]
        clear hwt
        go_upto_region 6 with fail
        go_region
        have A8 := Lib.hid A7.out.drew
        clear c11 c10 k10 A7 bg bl
        go_wp2_with fail
        go_returns
        exact ⟨_, by rw [HF.out]; rfl, A8.out, by rw [HF.out], _, _, _, _, _, rfl⟩
end Go.Proofs.Ythbhbechemnidaa
