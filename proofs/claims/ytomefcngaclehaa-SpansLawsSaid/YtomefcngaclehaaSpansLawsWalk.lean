/- Walk of SpansLaws. -/
import Derived.Test.YtomefcngaclehaaSpnV
import Derived.Test.YtomefcngaclehaaMixA
namespace Go.Proofs.Ytomefcngaclehaa
open Go.RowKit Go.Sort
theorem stand_belowS {w w' : World} (h : Stand allS w w') : Below w.heap.size w w' := ⟨h.os, h.tape, h.output, h.size, fun k hk => h.block k hk trivial⟩
theorem run_allocS (ρ : Operand → Value) (w : World) (o : Oper) (ho : o.op = .alloc 43) : (execOp ρ o).run Try.prog w = .ok (.value (.pointer (some ⟨w.heap.size, 0, none⟩))) (w.alloc (.cells #[.slice none 0 0] 43)) := by
  unfold execOp
  simp only [ho]
  simp [go_sem, Instr.alloc]
theorem freeA_ofS {P : Program} {ops : Array Oper} {X : List Nat} {z : Array Value} {t : TypeId} (h : ∀ x ∈ X, ∃ o, ops[x]? = some o ∧ o.guard = none ∧ o.op = .alloc t) (hz : ∀ (ρ : Operand → Value) (w : World) (o : Oper), o.op = .alloc t → (execOp ρ o).run P w = .ok (.value (.pointer (some ⟨w.heap.size, 0, none⟩))) (w.alloc (.cells z t))) : FreeA P ops X (fun _ => z) (fun _ => t) :=
  fun x hx => by
    obtain ⟨o, h1, h2, h3⟩ := h x hx
    exact ⟨o, h1, h2, fun ρ w => hz ρ w o h3⟩
theorem OwnP.rd {T : TypeId} {w : World} {base n c : Nat} {A : Option Addr} {C : List Sp} (h : OwnP T w base (.slice A n c) C) (hn : C.length = n) : RdP w A C := by
  subst hn
  exact Reads.of_own h
theorem OwnP.set_other {T T2 : TypeId} {w : World} {base g : Nat} {v : Value} {C : List Sp} {cs : Array Value} (h : OwnP T w base v C) (hb : Blk w g T2 cs) (hT : T ≠ T2) (i : Nat) (u : Value) : OwnP T (w.setCell ⟨g, i, none⟩ u) base v C := by
  refine World.ownsRow.kept h (only_set1 w g i u) ?_
  rcases h.2 with ⟨hv, _⟩ | ⟨q, cap, cur, hv, _, hq, _⟩
  · rw [hv]; exact .inl rfl
  · rw [hv]
    refine .inr (fun h => ?_)
    have h1 : q = g := by injection h
    subst h1
    exact Blk.ne_ (cs := cur) hq hb hT rfl

set_option maxRecDepth 100000 in
set_option maxHeartbeats 8000000 in
theorem spans_laws_walk (A B : Option Addr) (n m c d : Nat) (l k : List Sp) (key : ByteArray) (w : World) (hr : RdP w A l) (hr2 : RdP w B k) (hnl : l.length = n) (hmk : k.length = m) (hA : A = none → c = 0) (hB : B = none → d = 0) (hn0 : n ≤ 9223372036854775807) (hm0 : m ≤ 9223372036854775807) :
    Calls Try.prog 8 #[.slice A n c, .slice B m d, .string key] w fun e w' => e = .returned (.bool true) ∧ Below w.heap.size w w' := by
  have HN := Lib.hid hnl
  have HM := Lib.hid hmk
  have HL := Lib.hid hr
  have HK := Lib.hid hr2
  clear hr hr2 hnl hmk
  by_cases hn : n ≤ 30
  · by_cases hm : m ≤ 30
    · go_enter Try.func8, Try.ntmps8
      go_wp2_with fail
      refine (spans_Of A n c l w HL.out HN.out hA (by omega)).mono ?_
      rintro e w1 ⟨v1, rfl, o1, b1⟩
      have hx1 := ofS_len l
      have hc1 := ofS_canon l
      obtain ⟨x, hx⟩ : ∃ x, ofS l = x := ⟨_, rfl⟩
      rw [hx] at o1 hx1 hc1
      have HX := Lib.hid hx
      clear hx
      obtain ⟨nx, hnx⟩ : ∃ nx, x.length = nx := ⟨_, rfl⟩
      obtain ⟨Ax, cx, rfl, hAx, hrx⟩ := o1.named nx hnx
      have HNX := Lib.hid hnx
      have hnx30 : nx ≤ 30 := by rw [hnx, HN.out] at hx1; omega
      have HXR := Lib.hid hrx
      have HCX := Lib.hid hc1
      replace HL := Lib.hid (HL.out.below b1)
      replace HK := Lib.hid (HK.out.below b1)
      clear o1 hx1 hc1 hnx hrx
      go_wp2_with fail
      refine (spans_Of B m d k w1 HK.out HM.out hB (by omega)).mono ?_
      rintro e w2 ⟨v2, rfl, o2, b2⟩
      have hy1 := ofS_len k
      have hc2 := ofS_canon k
      obtain ⟨y, hy⟩ : ∃ y, ofS k = y := ⟨_, rfl⟩
      rw [hy] at o2 hy1 hc2
      have HY := Lib.hid hy
      clear hy
      obtain ⟨ny, hny⟩ : ∃ ny, y.length = ny := ⟨_, rfl⟩
      obtain ⟨Ay, cy, rfl, hAy, hry⟩ := o2.named ny hny
      have HNY := Lib.hid hny
      have hny30 : ny ≤ 30 := by rw [hny, HM.out] at hy1; omega
      have HYR := Lib.hid hry
      have HCY := Lib.hid hc2
      replace HL := Lib.hid (HL.out.below b2)
      replace HK := Lib.hid (HK.out.below b2)
      replace HXR := Lib.hid (HXR.out.below b2)
      have hBw := b1.trans (b2.mono b1.size)
      clear o2 hy1 hc2 hny hry b1 b2
      go_upto_region 4 with fail
      obtain ⟨w3, hw3⟩ : ∃ w3, (w2.alloc (.cells #[.slice Ax nx cx] 43)).alloc (.cells #[.slice Ay ny cy] 43) = w3 := ⟨_, rfl⟩
      have b3 : Below w2.heap.size w2 w3 := by rw [← hw3]; exact ((Below.refl _ _).alloc (Nat.le_refl _) _).alloc (by rw [World.size_alloc]; omega) _
      have BX : Blk w3 w2.heap.size 43 #[.slice Ax nx cx] := by rw [← hw3]; exact (Blk.new _ _ _).alloc _
      have BY : Blk w3 (w2.heap.size + 1) 43 #[.slice Ay ny cy] := by rw [← hw3, ← World.size_alloc w2 (.cells #[.slice Ax nx cx] 43)]; exact Blk.new _ _ _
      have HW3 := Lib.hid hw3
      clear hw3 HL HK HX HY
      rw [HW3.out]
      clear HW3
      replace HXR := Lib.hid (HXR.out.below b3)
      replace HYR := Lib.hid (HYR.out.below b3)
      replace hBw := hBw.trans (b3.mono hBw.size)
      clear b3
      obtain ⟨le, hle⟩ : ∃ le, ofS (lessL cmpT x y) = le := ⟨_, rfl⟩
      obtain ⟨me, hme⟩ : ∃ me, ofS (meetL cmpT x y) = me := ⟨_, rfl⟩
      have HLE := Lib.hid hle
      have HME := Lib.hid hme
      have hl1 := ofS_len (lessL cmpT x y)
      have hm1 := ofS_len (meetL cmpT x y)
      have hl2 := lessL_len y x []
      have hm2 := meetL_len cmpT _ x y (Nat.le_refl _)
      have hl3 : (lessL cmpT x y).length = (x.foldl (lessO cmpT y) []).length := rfl
      rw [HNX.out, HNY.out, List.length_nil] at hl2
      rw [HNX.out, HNY.out] at hm2
      have hl4 : nx * (ny + 1) ≤ 30 * 31 := Nat.mul_le_mul hnx30 (by omega)
      rw [hle] at hl1
      rw [hme] at hm1
      obtain ⟨nl, hnl⟩ : ∃ n, le.length = n := ⟨_, rfl⟩
      obtain ⟨nm, hnm⟩ : ∃ n, me.length = n := ⟨_, rfl⟩
      have hnl2 : nl ≤ 1000 := by omega
      have hnm2 : nm ≤ 1000 := by omega
      have HNL := Lib.hid hnl
      have HNM := Lib.hid hnm
      have HCL : Hid (Canon cmpT le) := Lib.hid (by rw [← hle]; exact ofS_canon _)
      have HCM : Hid (Canon cmpT me) := Lib.hid (by rw [← hme]; exact ofS_canon _)
      clear hle hme hl1 hm1 hl2 hm2 hl3 hl4 hnl hnm
      have q0 : ∀ p : Kept allS w3.drew, p.v.cell? ⟨w2.heap.size, 0, none⟩ = some (.slice Ax nx cx) := fun p => p.h.cell trivial (BX.drew.cell 0)
      have q1 : ∀ p : Kept allS w3.drew, p.v.cell? ⟨w2.heap.size + 1, 0, none⟩ = some (.slice Ay ny cy) := fun p => p.h.cell trivial (BY.drew.cell 0)
      refine wp_region_mixA [6, 7] (fun _ => #[.slice none 0 0]) (fun _ => 43) 8 [0, 1, 3, 4, 2, 5] (by kernel_rfl) (by kernel_rfl) (freeA_ofS (fun x hx => by simp only [List.mem_cons, List.mem_nil_iff, or_false] at hx; rcases hx with rfl | rfl <;> exact ⟨_, rfl, rfl, rfl⟩) run_allocS) ?_
      iterate 4 (refine mix_calmC rfl rfl ?_; go_big_quiet_step (fail); refine wpQuiet_nil ?_)
      clear q0 q1
      refine mix_loudC rfl (by kernel_rfl) ?_
      intro u1 hS K1 hK1
      have HK := Lib.hid hK1
      have bb1 : Below w3.heap.size w3 u1 := ((Below.refl _ _).drew).trans (stand_belowS hS)
      clear hK1 hS
      go_wp2_with fail
      refine (spans_Less Ax Ay nx ny cx cy x y u1 (HXR.out.below bb1) (HYR.out.below bb1) HNX.out HNY.out (by omega) (by omega)).mono ?_
      rintro e u2 ⟨v, rfl, o1, b2⟩
      rw [HLE.out] at o1
      have bb2 := bb1.trans (b2.mono bb1.size)
      obtain ⟨Al, cl, hv, hAl, -⟩ := o1.named nl HNL.out
      subst hv
      have OL := Lib.hid o1
      clear o1
      go_wp2_with fail
      refine HK.out _ _ (Stand.of_below b2) ?_
      clear HK b2 bb1
      refine mix_loudC rfl (by kernel_rfl) ?_
      intro u3 hS K1 hK1
      have HK := Lib.hid hK1
      have b3 := stand_belowS hS
      have bb3 := bb2.trans (b3.mono bb2.size)
      replace OL := Lib.hid (OL.out.below b3)
      clear hK1 hS b3
      go_wp2_with fail
      refine (spans_Meet Ax Ay nx ny cx cy x y u3 (HXR.out.below bb3) (HYR.out.below bb3) HNX.out HNY.out (by omega) (by omega)).mono ?_
      rintro e u4 ⟨v, rfl, o1, b4⟩
      rw [HME.out] at o1
      have bb4 := bb3.trans (b4.mono bb3.size)
      obtain ⟨Am, cm, hv, hAm, -⟩ := o1.named nm HNM.out
      subst hv
      have OM := Lib.hid o1
      replace OL := Lib.hid (OL.out.below b4)
      clear o1
      go_wp2_with fail
      refine HK.out _ _ (Stand.of_below b4) ?_
      clear HK b4 bb3 bb2
      refine mix_endC ?_
      intro u5 hS5
      have b5 := stand_belowS hS5
      have bb5 := bb4.trans (b5.mono bb4.size)
      replace OL := Lib.hid (OL.out.below b5)
      replace OM := Lib.hid (OM.out.below b5)
      clear hS5 b5 bb4
      refine made_two (R := fun a' => wpList _ _ _ _ a' u5) (by decide) (some 9) (some 10) rfl rfl ?_
      intro gm gn bm bn hgm hgn hne
      have fm := bm.frozen 0
      have fn := bn.frozen 0
      have ca := bm.cell 0
      have cb := bn.cell 0
      have hne2 : gn ≠ gm := Ne.symm hne
      have BL : Blk ((u5.setCell ⟨gm, 0, none⟩ (.slice Al nl cl)).setCell ⟨gn, 0, none⟩ (.slice Am nm cm)) gm 43 #[.slice Al nl cl] := (bm.set_ 0 _).far hne _
      have BM : Blk ((u5.setCell ⟨gm, 0, none⟩ (.slice Al nl cl)).setCell ⟨gn, 0, none⟩ (.slice Am nm cm)) gn 43 #[.slice Am nm cm] := (bn.far hne2 _).set_ 0 _
      have bbf := below_set (below_set bb5 hgm 0 (.slice Al nl cl)) hgn 0 (.slice Am nm cm)
      have HLR := Lib.hid ((((OL.out.set_other bm (by decide) 0 (.slice Al nl cl)).set_other (bn.far hne2 (.slice Al nl cl)) (by decide) 0 (.slice Am nm cm))).rd HNL.out)
      have HMR := Lib.hid ((((OM.out.set_other bm (by decide) 0 (.slice Al nl cl)).set_other (bn.far hne2 (.slice Al nl cl)) (by decide) 0 (.slice Am nm cm))).rd HNM.out)
      go_wp2_with fail
      clear bm bn fm fn ca cb OL OM bb5
      generalize (u5.setCell ⟨gm, 0, none⟩ (.slice Al nl cl)).setCell ⟨gn, 0, none⟩ (.slice Am nm cm) = w6 at *
      replace HXR := Lib.hid (HXR.out.below bbf)
      replace HYR := Lib.hid (HYR.out.below bbf)
      replace BX := BX.below bbf BX.lt
      replace BY := BY.below bbf BY.lt
      replace hBw := hBw.trans (bbf.mono hBw.size)
      clear bbf hgm hgn
      go_upto_region 5 with fail
      have HLM : Hid (ofS (le ++ me) = x) := Lib.hid (by rw [← HLE.out, ← HME.out]; exact less_meet x y HCX.out HCY.out)
      have HLA : Hid (ofS (meetL cmpT le y) = []) := Lib.hid (by rw [← HLE.out]; exact less_apart x y HCY.out)
      obtain ⟨jo, hjo⟩ : ∃ jo, ofS (x ++ y) = jo := ⟨_, rfl⟩
      have hjl := ofS_len (x ++ y)
      rw [hjo, List.length_append, HNX.out, HNY.out] at hjl
      obtain ⟨nj, hnj⟩ : ∃ n, jo.length = n := ⟨_, rfl⟩
      have hnj2 : nj ≤ 60 := by omega
      have HJO := Lib.hid hjo
      have HJS : Hid (ofS (y ++ x) = jo) := Lib.hid (by rw [← hjo]; exact (join_swap x y).symm)
      have HNJ := Lib.hid hnj
      have HCJ : Hid (Canon cmpT jo) := Lib.hid (by rw [← hjo]; exact ofS_canon _)
      clear hjo hjl hnj
      have bd : Below w6.heap.size w6 w6.drew := (Below.refl _ _).drew
      replace HXR := Lib.hid (HXR.out.below bd)
      replace HYR := Lib.hid (HYR.out.below bd)
      replace HLR := Lib.hid (HLR.out.below bd)
      replace HMR := Lib.hid (HMR.out.below bd)
      replace BX := BX.below bd BX.lt
      replace BY := BY.below bd BY.lt
      replace BL := BL.below bd BL.lt
      replace BM := BM.below bd BM.lt
      replace hBw := hBw.trans (bd.mono hBw.size)
      clear bd
      refine wp_region_mixDk (M := []) (fun _ => True) [0, 1, 3, 2, 4, 5, 6, 7, 8, 9, 10, 11, 12, 13, 14, 15, 16, 18, 19, 17, 20, 21, 22, 23] (by kernel_rfl) (by kernel_rfl) ?_
      obtain ⟨w7, hw7⟩ : ∃ q, w6.drew = q := ⟨_, rfl⟩
      rw [hw7] at HXR HYR HLR HMR BX BY BL BM hBw ⊢
      clear hw7
      have q0 : ∀ p : Kept (fun _ => True) w7, p.v.cell? ⟨w2.heap.size, 0, none⟩ = some (.slice Ax nx cx) := fun p => p.h.cell trivial (BX.cell 0)
      have q1 : ∀ p : Kept (fun _ => True) w7, p.v.cell? ⟨w2.heap.size + 1, 0, none⟩ = some (.slice Ay ny cy) := fun p => p.h.cell trivial (BY.cell 0)
      have q2 : ∀ p : Kept (fun _ => True) w7, p.v.cell? ⟨gm, 0, none⟩ = some (.slice Al nl cl) := fun p => p.h.cell trivial (BL.cell 0)
      have q3 : ∀ p : Kept (fun _ => True) w7, p.v.cell? ⟨gn, 0, none⟩ = some (.slice Am nm cm) := fun p => p.h.cell trivial (BM.cell 0)
      iterate 3 (refine mix_calmDk rfl rfl ?_; go_big_quiet_step (fail); refine wpQuiet_nil ?_)
      refine mix_loudDk rfl (by kernel_rfl) rfl ?_
      intro K1 hK1
      have HK := Lib.hid hK1
      clear hK1 
      go_wp2_with fail
      refine (spans_Join Al Am nl nm cl cm le me w7 HLR.out HMR.out HNL.out HNM.out (by omega) (by omega)).mono ?_
      rintro x u10 ⟨v, rfl, o1, b⟩
      replace HXR := Lib.hid (HXR.out.below b)
      replace HYR := Lib.hid (HYR.out.below b)
      replace HLR := Lib.hid (HLR.out.below b)
      replace HMR := Lib.hid (HMR.out.below b)
      replace BX := BX.below b BX.lt
      replace BY := BY.below b BY.lt
      replace BL := BL.below b BL.lt
      replace BM := BM.below b BM.lt
      replace hBw := hBw.trans (b.mono hBw.size)
      replace q0 : ∀ p : Kept (fun _ => True) u10, p.v.cell? ⟨w2.heap.size, 0, none⟩ = some (.slice Ax nx cx) := fun p => p.h.cell trivial (BX.cell 0)
      replace q1 : ∀ p : Kept (fun _ => True) u10, p.v.cell? ⟨w2.heap.size + 1, 0, none⟩ = some (.slice Ay ny cy) := fun p => p.h.cell trivial (BY.cell 0)
      replace q2 : ∀ p : Kept (fun _ => True) u10, p.v.cell? ⟨gm, 0, none⟩ = some (.slice Al nl cl) := fun p => p.h.cell trivial (BL.cell 0)
      replace q3 : ∀ p : Kept (fun _ => True) u10, p.v.cell? ⟨gn, 0, none⟩ = some (.slice Am nm cm) := fun p => p.h.cell trivial (BM.cell 0)
      rw [HLM.out] at o1
      obtain ⟨Aj, cj, rfl, hAj, hrAj⟩ := o1.named nx HNX.out
      have HJ1 := Lib.hid hrAj
      clear o1 hrAj
      go_wp2_with fail
      refine HK.out _ _ (Stand.of_below b) ?_
      clear HK
      clear b
      refine mix_loudDk rfl (by kernel_rfl) rfl ?_
      intro K1 hK1
      have HK := Lib.hid hK1
      clear hK1 
      go_wp2_with fail
      refine (set_Same Aj Ax nx nx cj cx x x u10 HJ1.out HXR.out HNX.out HNX.out (by omega) (by omega)).mono ?_
      rintro x u11 ⟨rfl, b⟩
      replace HXR := Lib.hid (HXR.out.below b)
      replace HYR := Lib.hid (HYR.out.below b)
      replace HLR := Lib.hid (HLR.out.below b)
      replace HMR := Lib.hid (HMR.out.below b)
      replace HJ1 := Lib.hid (HJ1.out.below b)
      replace BX := BX.below b BX.lt
      replace BY := BY.below b BY.lt
      replace BL := BL.below b BL.lt
      replace BM := BM.below b BM.lt
      replace hBw := hBw.trans (b.mono hBw.size)
      replace q0 : ∀ p : Kept (fun _ => True) u11, p.v.cell? ⟨w2.heap.size, 0, none⟩ = some (.slice Ax nx cx) := fun p => p.h.cell trivial (BX.cell 0)
      replace q1 : ∀ p : Kept (fun _ => True) u11, p.v.cell? ⟨w2.heap.size + 1, 0, none⟩ = some (.slice Ay ny cy) := fun p => p.h.cell trivial (BY.cell 0)
      replace q2 : ∀ p : Kept (fun _ => True) u11, p.v.cell? ⟨gm, 0, none⟩ = some (.slice Al nl cl) := fun p => p.h.cell trivial (BL.cell 0)
      replace q3 : ∀ p : Kept (fun _ => True) u11, p.v.cell? ⟨gn, 0, none⟩ = some (.slice Am nm cm) := fun p => p.h.cell trivial (BM.cell 0)
      rw [show decide (x = x) = true by simp]
      go_wp2_with fail
      refine HK.out _ _ (Stand.of_below b) ?_
      clear HK
      clear b
      iterate 4 (refine mix_calmDk rfl rfl ?_; go_big_quiet_step (fail); refine wpQuiet_nil ?_)
      refine mix_loudDk rfl (by kernel_rfl) rfl ?_
      intro K1 hK1
      have HK := Lib.hid hK1
      clear hK1 
      go_wp2_with fail
      refine (spans_Meet Al Ay nl ny cl cy le y u11 HLR.out HYR.out HNL.out HNY.out (by omega) (by omega)).mono ?_
      rintro x u12 ⟨v, rfl, o1, b⟩
      replace HXR := Lib.hid (HXR.out.below b)
      replace HYR := Lib.hid (HYR.out.below b)
      replace HLR := Lib.hid (HLR.out.below b)
      replace HMR := Lib.hid (HMR.out.below b)
      replace HJ1 := Lib.hid (HJ1.out.below b)
      replace BX := BX.below b BX.lt
      replace BY := BY.below b BY.lt
      replace BL := BL.below b BL.lt
      replace BM := BM.below b BM.lt
      replace hBw := hBw.trans (b.mono hBw.size)
      replace q0 : ∀ p : Kept (fun _ => True) u12, p.v.cell? ⟨w2.heap.size, 0, none⟩ = some (.slice Ax nx cx) := fun p => p.h.cell trivial (BX.cell 0)
      replace q1 : ∀ p : Kept (fun _ => True) u12, p.v.cell? ⟨w2.heap.size + 1, 0, none⟩ = some (.slice Ay ny cy) := fun p => p.h.cell trivial (BY.cell 0)
      replace q2 : ∀ p : Kept (fun _ => True) u12, p.v.cell? ⟨gm, 0, none⟩ = some (.slice Al nl cl) := fun p => p.h.cell trivial (BL.cell 0)
      replace q3 : ∀ p : Kept (fun _ => True) u12, p.v.cell? ⟨gn, 0, none⟩ = some (.slice Am nm cm) := fun p => p.h.cell trivial (BM.cell 0)
      rw [HLA.out] at o1
      obtain ⟨Ae, ce, rfl, hAe, hrAe⟩ := o1.named 0 rfl
      have HE1 := Lib.hid hrAe
      clear o1 hrAe
      go_wp2_with fail
      refine HK.out _ _ (Stand.of_below b) ?_
      clear HK
      clear b
      refine mix_loudDk rfl (by kernel_rfl) rfl ?_
      intro K1 hK1
      have HK := Lib.hid hK1
      clear hK1 
      go_wp2_with fail
      refine (set_All Ae 0 ce [] u12 HE1.out rfl hAe (by omega)).mono ?_
      rintro x u13 ⟨v, rfl, o1, b⟩
      replace HXR := Lib.hid (HXR.out.below b)
      replace HYR := Lib.hid (HYR.out.below b)
      replace HLR := Lib.hid (HLR.out.below b)
      replace HMR := Lib.hid (HMR.out.below b)
      replace HJ1 := Lib.hid (HJ1.out.below b)
      replace HE1 := Lib.hid (HE1.out.below b)
      replace BX := BX.below b BX.lt
      replace BY := BY.below b BY.lt
      replace BL := BL.below b BL.lt
      replace BM := BM.below b BM.lt
      replace hBw := hBw.trans (b.mono hBw.size)
      replace q0 : ∀ p : Kept (fun _ => True) u13, p.v.cell? ⟨w2.heap.size, 0, none⟩ = some (.slice Ax nx cx) := fun p => p.h.cell trivial (BX.cell 0)
      replace q1 : ∀ p : Kept (fun _ => True) u13, p.v.cell? ⟨w2.heap.size + 1, 0, none⟩ = some (.slice Ay ny cy) := fun p => p.h.cell trivial (BY.cell 0)
      replace q2 : ∀ p : Kept (fun _ => True) u13, p.v.cell? ⟨gm, 0, none⟩ = some (.slice Al nl cl) := fun p => p.h.cell trivial (BL.cell 0)
      replace q3 : ∀ p : Kept (fun _ => True) u13, p.v.cell? ⟨gn, 0, none⟩ = some (.slice Am nm cm) := fun p => p.h.cell trivial (BM.cell 0)
      obtain ⟨Af, cf, rfl, hAf, hrAf⟩ := o1.named 0 rfl
      have HF1 := Lib.hid hrAf
      clear o1 hrAf
      go_wp2_with fail
      refine HK.out _ _ (Stand.of_below b) ?_
      clear HK
      clear b
      iterate 4 (refine mix_calmDk rfl rfl ?_; go_big_quiet_step (fail); refine wpQuiet_nil ?_)
      iterate 4 (refine mix_calmDk rfl rfl ?_; go_big_quiet_step (fail); refine wpQuiet_nil ?_)
      refine mix_loudDk rfl (by kernel_rfl) rfl ?_
      intro K1 hK1
      have HK := Lib.hid hK1
      clear hK1 
      go_wp2_with fail
      refine (spans_Join Ax Ay nx ny cx cy x y u13 HXR.out HYR.out HNX.out HNY.out (by omega) (by omega)).mono ?_
      rintro x u14 ⟨v, rfl, o1, b⟩
      replace HXR := Lib.hid (HXR.out.below b)
      replace HYR := Lib.hid (HYR.out.below b)
      replace HLR := Lib.hid (HLR.out.below b)
      replace HMR := Lib.hid (HMR.out.below b)
      replace HJ1 := Lib.hid (HJ1.out.below b)
      replace HE1 := Lib.hid (HE1.out.below b)
      replace HF1 := Lib.hid (HF1.out.below b)
      replace BX := BX.below b BX.lt
      replace BY := BY.below b BY.lt
      replace BL := BL.below b BL.lt
      replace BM := BM.below b BM.lt
      replace hBw := hBw.trans (b.mono hBw.size)
      replace q0 : ∀ p : Kept (fun _ => True) u14, p.v.cell? ⟨w2.heap.size, 0, none⟩ = some (.slice Ax nx cx) := fun p => p.h.cell trivial (BX.cell 0)
      replace q1 : ∀ p : Kept (fun _ => True) u14, p.v.cell? ⟨w2.heap.size + 1, 0, none⟩ = some (.slice Ay ny cy) := fun p => p.h.cell trivial (BY.cell 0)
      replace q2 : ∀ p : Kept (fun _ => True) u14, p.v.cell? ⟨gm, 0, none⟩ = some (.slice Al nl cl) := fun p => p.h.cell trivial (BL.cell 0)
      replace q3 : ∀ p : Kept (fun _ => True) u14, p.v.cell? ⟨gn, 0, none⟩ = some (.slice Am nm cm) := fun p => p.h.cell trivial (BM.cell 0)
      rw [HJO.out] at o1
      obtain ⟨Ag, cg, rfl, hAg, hrAg⟩ := o1.named nj HNJ.out
      have HG1 := Lib.hid hrAg
      clear o1 hrAg
      go_wp2_with fail
      refine HK.out _ _ (Stand.of_below b) ?_
      clear HK
      clear b
      refine mix_loudDk rfl (by kernel_rfl) rfl ?_
      intro K1 hK1
      have HK := Lib.hid hK1
      clear hK1 
      go_wp2_with fail
      refine (spans_Join Ay Ax ny nx cy cx y x u14 HYR.out HXR.out HNY.out HNX.out (by omega) (by omega)).mono ?_
      rintro x u15 ⟨v, rfl, o1, b⟩
      replace HXR := Lib.hid (HXR.out.below b)
      replace HYR := Lib.hid (HYR.out.below b)
      replace HLR := Lib.hid (HLR.out.below b)
      replace HMR := Lib.hid (HMR.out.below b)
      replace HJ1 := Lib.hid (HJ1.out.below b)
      replace HE1 := Lib.hid (HE1.out.below b)
      replace HF1 := Lib.hid (HF1.out.below b)
      replace HG1 := Lib.hid (HG1.out.below b)
      replace BX := BX.below b BX.lt
      replace BY := BY.below b BY.lt
      replace BL := BL.below b BL.lt
      replace BM := BM.below b BM.lt
      replace hBw := hBw.trans (b.mono hBw.size)
      replace q0 : ∀ p : Kept (fun _ => True) u15, p.v.cell? ⟨w2.heap.size, 0, none⟩ = some (.slice Ax nx cx) := fun p => p.h.cell trivial (BX.cell 0)
      replace q1 : ∀ p : Kept (fun _ => True) u15, p.v.cell? ⟨w2.heap.size + 1, 0, none⟩ = some (.slice Ay ny cy) := fun p => p.h.cell trivial (BY.cell 0)
      replace q2 : ∀ p : Kept (fun _ => True) u15, p.v.cell? ⟨gm, 0, none⟩ = some (.slice Al nl cl) := fun p => p.h.cell trivial (BL.cell 0)
      replace q3 : ∀ p : Kept (fun _ => True) u15, p.v.cell? ⟨gn, 0, none⟩ = some (.slice Am nm cm) := fun p => p.h.cell trivial (BM.cell 0)
      rw [HJS.out] at o1
      obtain ⟨Ah, ch, rfl, hAh, hrAh⟩ := o1.named nj HNJ.out
      have HH1 := Lib.hid hrAh
      clear o1 hrAh
      go_wp2_with fail
      refine HK.out _ _ (Stand.of_below b) ?_
      clear HK
      clear b
      refine mix_loudDk rfl (by kernel_rfl) rfl ?_
      intro K1 hK1
      have HK := Lib.hid hK1
      clear hK1 
      go_wp2_with fail
      refine (set_Same Ag Ah nj nj cg ch jo jo u15 HG1.out HH1.out HNJ.out HNJ.out (by omega) (by omega)).mono ?_
      rintro x u16 ⟨rfl, b⟩
      replace HXR := Lib.hid (HXR.out.below b)
      replace HYR := Lib.hid (HYR.out.below b)
      replace HLR := Lib.hid (HLR.out.below b)
      replace HMR := Lib.hid (HMR.out.below b)
      replace HJ1 := Lib.hid (HJ1.out.below b)
      replace HE1 := Lib.hid (HE1.out.below b)
      replace HF1 := Lib.hid (HF1.out.below b)
      replace HG1 := Lib.hid (HG1.out.below b)
      replace HH1 := Lib.hid (HH1.out.below b)
      replace BX := BX.below b BX.lt
      replace BY := BY.below b BY.lt
      replace BL := BL.below b BL.lt
      replace BM := BM.below b BM.lt
      replace hBw := hBw.trans (b.mono hBw.size)
      replace q0 : ∀ p : Kept (fun _ => True) u16, p.v.cell? ⟨w2.heap.size, 0, none⟩ = some (.slice Ax nx cx) := fun p => p.h.cell trivial (BX.cell 0)
      replace q1 : ∀ p : Kept (fun _ => True) u16, p.v.cell? ⟨w2.heap.size + 1, 0, none⟩ = some (.slice Ay ny cy) := fun p => p.h.cell trivial (BY.cell 0)
      replace q2 : ∀ p : Kept (fun _ => True) u16, p.v.cell? ⟨gm, 0, none⟩ = some (.slice Al nl cl) := fun p => p.h.cell trivial (BL.cell 0)
      replace q3 : ∀ p : Kept (fun _ => True) u16, p.v.cell? ⟨gn, 0, none⟩ = some (.slice Am nm cm) := fun p => p.h.cell trivial (BM.cell 0)
      rw [show decide (jo = jo) = true by simp]
      go_wp2_with fail
      refine HK.out _ _ (Stand.of_below b) ?_
      clear HK
      clear b
      iterate 2 (refine mix_calmDk rfl rfl ?_; go_big_quiet_step (fail); refine wpQuiet_nil ?_)
      refine mix_endDk ?_
      clear q0 q1 q2 q3 HJ1 HE1 HF1 HG1 HH1
      go_upto_region 7 with fail
      obtain ⟨qx, hqx⟩ : ∃ qx, inL cmpT x key = qx := ⟨_, rfl⟩
      obtain ⟨qy, hqy⟩ : ∃ qy, inL cmpT y key = qy := ⟨_, rfl⟩
      have HQX := Lib.hid hqx
      have HQY := Lib.hid hqy
      have HQJ : Hid (inL cmpT jo key = (qx || qy)) := Lib.hid (by rw [← HJO.out, ofS_in, inL_append, hqx, hqy])
      have HQM : Hid (inL cmpT me key = (qx && qy)) := Lib.hid (by rw [← HME.out, ofS_in, meet_in HCX.out HCY.out, hqx, hqy])
      have HQL : Hid (inL cmpT le key = (qx && !qy)) := Lib.hid (by rw [← HLE.out, ofS_in, less_in _ HCY.out, hqx, hqy])
      clear hqx hqy
      cases qx with
      | true =>
        cases qy with
        | true =>
          have bd : Below u16.heap.size u16 u16.drew := (Below.refl _ _).drew
          replace HXR := Lib.hid (HXR.out.below bd)
          replace HYR := Lib.hid (HYR.out.below bd)
          replace HLR := Lib.hid (HLR.out.below bd)
          replace HMR := Lib.hid (HMR.out.below bd)
          replace BX := BX.below bd BX.lt
          replace BY := BY.below bd BY.lt
          replace BL := BL.below bd BL.lt
          replace BM := BM.below bd BM.lt
          replace hBw := hBw.trans (bd.mono hBw.size)
          clear bd
          refine wp_region_mixDk (M := []) (fun _ => True) [0, 1, 3, 5, 6, 2, 4, 7, 8, 9, 10, 11, 12, 13, 14, 15, 16, 18, 19, 17, 20, 21, 22, 23, 24, 25, 26, 27, 28, 29, 30, 32, 33, 31, 34, 35, 36, 37, 38, 39, 40, 41, 42, 43, 44, 45, 46] (by kernel_rfl) (by kernel_rfl) ?_
          obtain ⟨w8, hw8⟩ : ∃ q, u16.drew = q := ⟨_, rfl⟩
          rw [hw8] at HXR HYR HLR HMR BX BY BL BM hBw ⊢
          clear hw8
          have q0 : ∀ p : Kept (fun _ => True) w8, p.v.cell? ⟨w2.heap.size, 0, none⟩ = some (.slice Ax nx cx) := fun p => p.h.cell trivial (BX.cell 0)
          have q1 : ∀ p : Kept (fun _ => True) w8, p.v.cell? ⟨w2.heap.size + 1, 0, none⟩ = some (.slice Ay ny cy) := fun p => p.h.cell trivial (BY.cell 0)
          have q2 : ∀ p : Kept (fun _ => True) w8, p.v.cell? ⟨gm, 0, none⟩ = some (.slice Al nl cl) := fun p => p.h.cell trivial (BL.cell 0)
          have q3 : ∀ p : Kept (fun _ => True) w8, p.v.cell? ⟨gn, 0, none⟩ = some (.slice Am nm cm) := fun p => p.h.cell trivial (BM.cell 0)
          iterate 5 (refine mix_calmDk rfl rfl ?_; go_big_quiet_step (fail); refine wpQuiet_nil ?_)
          refine mix_loudDk rfl (by kernel_rfl) rfl ?_
          intro K1 hK1
          have HK := Lib.hid hK1
          clear hK1 
          go_wp2_with fail
          refine (spans_Join Ax Ay nx ny cx cy x y w8 HXR.out HYR.out HNX.out HNY.out (by omega) (by omega)).mono ?_
          rintro x u17 ⟨v, rfl, o1, b⟩
          replace HXR := Lib.hid (HXR.out.below b)
          replace HYR := Lib.hid (HYR.out.below b)
          replace HLR := Lib.hid (HLR.out.below b)
          replace HMR := Lib.hid (HMR.out.below b)
          replace BX := BX.below b BX.lt
          replace BY := BY.below b BY.lt
          replace BL := BL.below b BL.lt
          replace BM := BM.below b BM.lt
          replace hBw := hBw.trans (b.mono hBw.size)
          replace q0 : ∀ p : Kept (fun _ => True) u17, p.v.cell? ⟨w2.heap.size, 0, none⟩ = some (.slice Ax nx cx) := fun p => p.h.cell trivial (BX.cell 0)
          replace q1 : ∀ p : Kept (fun _ => True) u17, p.v.cell? ⟨w2.heap.size + 1, 0, none⟩ = some (.slice Ay ny cy) := fun p => p.h.cell trivial (BY.cell 0)
          replace q2 : ∀ p : Kept (fun _ => True) u17, p.v.cell? ⟨gm, 0, none⟩ = some (.slice Al nl cl) := fun p => p.h.cell trivial (BL.cell 0)
          replace q3 : ∀ p : Kept (fun _ => True) u17, p.v.cell? ⟨gn, 0, none⟩ = some (.slice Am nm cm) := fun p => p.h.cell trivial (BM.cell 0)
          rw [HJO.out] at o1
          obtain ⟨Ag, cg, rfl, hAg, hrAg⟩ := o1.named nj HNJ.out
          have HG1 := Lib.hid hrAg
          clear o1 hrAg
          go_wp2_with fail
          refine HK.out _ _ (Stand.of_below b) ?_
          clear HK
          clear b
          refine mix_loudDk rfl (by kernel_rfl) rfl ?_
          intro K1 hK1
          have HK := Lib.hid hK1
          clear hK1 
          go_wp2_with fail
          refine (set_Has Ag nj cg jo key u17 HG1.out HNJ.out HCJ.out (by omega)).mono ?_
          rintro x u18 ⟨rfl, b⟩
          replace HXR := Lib.hid (HXR.out.below b)
          replace HYR := Lib.hid (HYR.out.below b)
          replace HLR := Lib.hid (HLR.out.below b)
          replace HMR := Lib.hid (HMR.out.below b)
          replace HG1 := Lib.hid (HG1.out.below b)
          replace BX := BX.below b BX.lt
          replace BY := BY.below b BY.lt
          replace BL := BL.below b BL.lt
          replace BM := BM.below b BM.lt
          replace hBw := hBw.trans (b.mono hBw.size)
          replace q0 : ∀ p : Kept (fun _ => True) u18, p.v.cell? ⟨w2.heap.size, 0, none⟩ = some (.slice Ax nx cx) := fun p => p.h.cell trivial (BX.cell 0)
          replace q1 : ∀ p : Kept (fun _ => True) u18, p.v.cell? ⟨w2.heap.size + 1, 0, none⟩ = some (.slice Ay ny cy) := fun p => p.h.cell trivial (BY.cell 0)
          replace q2 : ∀ p : Kept (fun _ => True) u18, p.v.cell? ⟨gm, 0, none⟩ = some (.slice Al nl cl) := fun p => p.h.cell trivial (BL.cell 0)
          replace q3 : ∀ p : Kept (fun _ => True) u18, p.v.cell? ⟨gn, 0, none⟩ = some (.slice Am nm cm) := fun p => p.h.cell trivial (BM.cell 0)
          rw [HQJ.out]
          go_wp2_with fail
          refine HK.out _ _ (Stand.of_below b) ?_
          clear HK
          clear b
          refine mix_loudDk rfl (by kernel_rfl) rfl ?_
          intro K1 hK1
          have HK := Lib.hid hK1
          clear hK1 
          go_wp2_with fail
          refine (set_Has Ax nx cx x key u18 HXR.out HNX.out HCX.out (by omega)).mono ?_
          rintro x u19 ⟨rfl, b⟩
          replace HXR := Lib.hid (HXR.out.below b)
          replace HYR := Lib.hid (HYR.out.below b)
          replace HLR := Lib.hid (HLR.out.below b)
          replace HMR := Lib.hid (HMR.out.below b)
          replace HG1 := Lib.hid (HG1.out.below b)
          replace BX := BX.below b BX.lt
          replace BY := BY.below b BY.lt
          replace BL := BL.below b BL.lt
          replace BM := BM.below b BM.lt
          replace hBw := hBw.trans (b.mono hBw.size)
          replace q0 : ∀ p : Kept (fun _ => True) u19, p.v.cell? ⟨w2.heap.size, 0, none⟩ = some (.slice Ax nx cx) := fun p => p.h.cell trivial (BX.cell 0)
          replace q1 : ∀ p : Kept (fun _ => True) u19, p.v.cell? ⟨w2.heap.size + 1, 0, none⟩ = some (.slice Ay ny cy) := fun p => p.h.cell trivial (BY.cell 0)
          replace q2 : ∀ p : Kept (fun _ => True) u19, p.v.cell? ⟨gm, 0, none⟩ = some (.slice Al nl cl) := fun p => p.h.cell trivial (BL.cell 0)
          replace q3 : ∀ p : Kept (fun _ => True) u19, p.v.cell? ⟨gn, 0, none⟩ = some (.slice Am nm cm) := fun p => p.h.cell trivial (BM.cell 0)
          rw [HQX.out]
          go_wp2_with fail
          refine HK.out _ _ (Stand.of_below b) ?_
          clear HK
          clear b
          iterate 3 (refine mix_calmDk rfl rfl ?_; go_big_quiet_step (fail); refine wpQuiet_nil ?_)
          refine mix_loudDk rfl (by kernel_rfl) rfl ?_
          intro K1 hK1
          have HK := Lib.hid hK1
          clear hK1
          go_wp2_with fail
          refine HK.out _ _ (Stand.refl _ _) ?_
          clear HK
          iterate 3 (refine mix_calmDk rfl rfl ?_; go_big_quiet_step (fail); refine wpQuiet_nil ?_)
          iterate 4 (refine mix_calmDk rfl rfl ?_; go_big_quiet_step (fail); refine wpQuiet_nil ?_)
          refine mix_loudDk rfl (by kernel_rfl) rfl ?_
          intro K1 hK1
          have HK := Lib.hid hK1
          clear hK1 
          go_wp2_with fail
          refine (set_Has Am nm cm me key u19 HMR.out HNM.out HCM.out (by omega)).mono ?_
          rintro x u20 ⟨rfl, b⟩
          replace HXR := Lib.hid (HXR.out.below b)
          replace HYR := Lib.hid (HYR.out.below b)
          replace HLR := Lib.hid (HLR.out.below b)
          replace HMR := Lib.hid (HMR.out.below b)
          replace HG1 := Lib.hid (HG1.out.below b)
          replace BX := BX.below b BX.lt
          replace BY := BY.below b BY.lt
          replace BL := BL.below b BL.lt
          replace BM := BM.below b BM.lt
          replace hBw := hBw.trans (b.mono hBw.size)
          replace q0 : ∀ p : Kept (fun _ => True) u20, p.v.cell? ⟨w2.heap.size, 0, none⟩ = some (.slice Ax nx cx) := fun p => p.h.cell trivial (BX.cell 0)
          replace q1 : ∀ p : Kept (fun _ => True) u20, p.v.cell? ⟨w2.heap.size + 1, 0, none⟩ = some (.slice Ay ny cy) := fun p => p.h.cell trivial (BY.cell 0)
          replace q2 : ∀ p : Kept (fun _ => True) u20, p.v.cell? ⟨gm, 0, none⟩ = some (.slice Al nl cl) := fun p => p.h.cell trivial (BL.cell 0)
          replace q3 : ∀ p : Kept (fun _ => True) u20, p.v.cell? ⟨gn, 0, none⟩ = some (.slice Am nm cm) := fun p => p.h.cell trivial (BM.cell 0)
          rw [HQM.out]
          go_wp2_with fail
          refine HK.out _ _ (Stand.of_below b) ?_
          clear HK
          clear b
          refine mix_loudDk rfl (by kernel_rfl) rfl ?_
          intro K1 hK1
          have HK := Lib.hid hK1
          clear hK1 
          go_wp2_with fail
          refine (set_Has Ax nx cx x key u20 HXR.out HNX.out HCX.out (by omega)).mono ?_
          rintro x u21 ⟨rfl, b⟩
          replace HXR := Lib.hid (HXR.out.below b)
          replace HYR := Lib.hid (HYR.out.below b)
          replace HLR := Lib.hid (HLR.out.below b)
          replace HMR := Lib.hid (HMR.out.below b)
          replace HG1 := Lib.hid (HG1.out.below b)
          replace BX := BX.below b BX.lt
          replace BY := BY.below b BY.lt
          replace BL := BL.below b BL.lt
          replace BM := BM.below b BM.lt
          replace hBw := hBw.trans (b.mono hBw.size)
          replace q0 : ∀ p : Kept (fun _ => True) u21, p.v.cell? ⟨w2.heap.size, 0, none⟩ = some (.slice Ax nx cx) := fun p => p.h.cell trivial (BX.cell 0)
          replace q1 : ∀ p : Kept (fun _ => True) u21, p.v.cell? ⟨w2.heap.size + 1, 0, none⟩ = some (.slice Ay ny cy) := fun p => p.h.cell trivial (BY.cell 0)
          replace q2 : ∀ p : Kept (fun _ => True) u21, p.v.cell? ⟨gm, 0, none⟩ = some (.slice Al nl cl) := fun p => p.h.cell trivial (BL.cell 0)
          replace q3 : ∀ p : Kept (fun _ => True) u21, p.v.cell? ⟨gn, 0, none⟩ = some (.slice Am nm cm) := fun p => p.h.cell trivial (BM.cell 0)
          rw [HQX.out]
          go_wp2_with fail
          refine HK.out _ _ (Stand.of_below b) ?_
          clear HK
          clear b
          iterate 3 (refine mix_calmDk rfl rfl ?_; go_big_quiet_step (fail); refine wpQuiet_nil ?_)
          refine mix_loudDk rfl (by kernel_rfl) rfl ?_
          intro K1 hK1
          have HK := Lib.hid hK1
          clear hK1 
          go_wp2_with fail
          refine (set_Has Ay ny cy y key u21 HYR.out HNY.out HCY.out (by omega)).mono ?_
          rintro x u22 ⟨rfl, b⟩
          replace HXR := Lib.hid (HXR.out.below b)
          replace HYR := Lib.hid (HYR.out.below b)
          replace HLR := Lib.hid (HLR.out.below b)
          replace HMR := Lib.hid (HMR.out.below b)
          replace HG1 := Lib.hid (HG1.out.below b)
          replace BX := BX.below b BX.lt
          replace BY := BY.below b BY.lt
          replace BL := BL.below b BL.lt
          replace BM := BM.below b BM.lt
          replace hBw := hBw.trans (b.mono hBw.size)
          replace q0 : ∀ p : Kept (fun _ => True) u22, p.v.cell? ⟨w2.heap.size, 0, none⟩ = some (.slice Ax nx cx) := fun p => p.h.cell trivial (BX.cell 0)
          replace q1 : ∀ p : Kept (fun _ => True) u22, p.v.cell? ⟨w2.heap.size + 1, 0, none⟩ = some (.slice Ay ny cy) := fun p => p.h.cell trivial (BY.cell 0)
          replace q2 : ∀ p : Kept (fun _ => True) u22, p.v.cell? ⟨gm, 0, none⟩ = some (.slice Al nl cl) := fun p => p.h.cell trivial (BL.cell 0)
          replace q3 : ∀ p : Kept (fun _ => True) u22, p.v.cell? ⟨gn, 0, none⟩ = some (.slice Am nm cm) := fun p => p.h.cell trivial (BM.cell 0)
          rw [HQY.out]
          go_wp2_with fail
          refine HK.out _ _ (Stand.of_below b) ?_
          clear HK
          clear b
          iterate 4 (refine mix_calmDk rfl rfl ?_; go_big_quiet_step (fail); refine wpQuiet_nil ?_)
          iterate 4 (refine mix_calmDk rfl rfl ?_; go_big_quiet_step (fail); refine wpQuiet_nil ?_)
          refine mix_loudDk rfl (by kernel_rfl) rfl ?_
          intro K1 hK1
          have HK := Lib.hid hK1
          clear hK1 
          go_wp2_with fail
          refine (set_Has Al nl cl le key u22 HLR.out HNL.out HCL.out (by omega)).mono ?_
          rintro x u23 ⟨rfl, b⟩
          replace HXR := Lib.hid (HXR.out.below b)
          replace HYR := Lib.hid (HYR.out.below b)
          replace HLR := Lib.hid (HLR.out.below b)
          replace HMR := Lib.hid (HMR.out.below b)
          replace HG1 := Lib.hid (HG1.out.below b)
          replace BX := BX.below b BX.lt
          replace BY := BY.below b BY.lt
          replace BL := BL.below b BL.lt
          replace BM := BM.below b BM.lt
          replace hBw := hBw.trans (b.mono hBw.size)
          replace q0 : ∀ p : Kept (fun _ => True) u23, p.v.cell? ⟨w2.heap.size, 0, none⟩ = some (.slice Ax nx cx) := fun p => p.h.cell trivial (BX.cell 0)
          replace q1 : ∀ p : Kept (fun _ => True) u23, p.v.cell? ⟨w2.heap.size + 1, 0, none⟩ = some (.slice Ay ny cy) := fun p => p.h.cell trivial (BY.cell 0)
          replace q2 : ∀ p : Kept (fun _ => True) u23, p.v.cell? ⟨gm, 0, none⟩ = some (.slice Al nl cl) := fun p => p.h.cell trivial (BL.cell 0)
          replace q3 : ∀ p : Kept (fun _ => True) u23, p.v.cell? ⟨gn, 0, none⟩ = some (.slice Am nm cm) := fun p => p.h.cell trivial (BM.cell 0)
          rw [HQL.out]
          go_wp2_with fail
          refine HK.out _ _ (Stand.of_below b) ?_
          clear HK
          clear b
          refine mix_loudDk rfl (by kernel_rfl) rfl ?_
          intro K1 hK1
          have HK := Lib.hid hK1
          clear hK1 
          go_wp2_with fail
          refine (set_Has Ax nx cx x key u23 HXR.out HNX.out HCX.out (by omega)).mono ?_
          rintro x u24 ⟨rfl, b⟩
          replace HXR := Lib.hid (HXR.out.below b)
          replace HYR := Lib.hid (HYR.out.below b)
          replace HLR := Lib.hid (HLR.out.below b)
          replace HMR := Lib.hid (HMR.out.below b)
          replace HG1 := Lib.hid (HG1.out.below b)
          replace BX := BX.below b BX.lt
          replace BY := BY.below b BY.lt
          replace BL := BL.below b BL.lt
          replace BM := BM.below b BM.lt
          replace hBw := hBw.trans (b.mono hBw.size)
          replace q0 : ∀ p : Kept (fun _ => True) u24, p.v.cell? ⟨w2.heap.size, 0, none⟩ = some (.slice Ax nx cx) := fun p => p.h.cell trivial (BX.cell 0)
          replace q1 : ∀ p : Kept (fun _ => True) u24, p.v.cell? ⟨w2.heap.size + 1, 0, none⟩ = some (.slice Ay ny cy) := fun p => p.h.cell trivial (BY.cell 0)
          replace q2 : ∀ p : Kept (fun _ => True) u24, p.v.cell? ⟨gm, 0, none⟩ = some (.slice Al nl cl) := fun p => p.h.cell trivial (BL.cell 0)
          replace q3 : ∀ p : Kept (fun _ => True) u24, p.v.cell? ⟨gn, 0, none⟩ = some (.slice Am nm cm) := fun p => p.h.cell trivial (BM.cell 0)
          rw [HQX.out]
          go_wp2_with fail
          refine HK.out _ _ (Stand.of_below b) ?_
          clear HK
          clear b
          iterate 3 (refine mix_calmDk rfl rfl ?_; go_big_quiet_step (fail); refine wpQuiet_nil ?_)
          refine mix_loudDk rfl (by kernel_rfl) rfl ?_
          intro K1 hK1
          have HK := Lib.hid hK1
          clear hK1 
          go_wp2_with fail
          refine (set_Has Ay ny cy y key u24 HYR.out HNY.out HCY.out (by omega)).mono ?_
          rintro x u25 ⟨rfl, b⟩
          replace HXR := Lib.hid (HXR.out.below b)
          replace HYR := Lib.hid (HYR.out.below b)
          replace HLR := Lib.hid (HLR.out.below b)
          replace HMR := Lib.hid (HMR.out.below b)
          replace HG1 := Lib.hid (HG1.out.below b)
          replace BX := BX.below b BX.lt
          replace BY := BY.below b BY.lt
          replace BL := BL.below b BL.lt
          replace BM := BM.below b BM.lt
          replace hBw := hBw.trans (b.mono hBw.size)
          replace q0 : ∀ p : Kept (fun _ => True) u25, p.v.cell? ⟨w2.heap.size, 0, none⟩ = some (.slice Ax nx cx) := fun p => p.h.cell trivial (BX.cell 0)
          replace q1 : ∀ p : Kept (fun _ => True) u25, p.v.cell? ⟨w2.heap.size + 1, 0, none⟩ = some (.slice Ay ny cy) := fun p => p.h.cell trivial (BY.cell 0)
          replace q2 : ∀ p : Kept (fun _ => True) u25, p.v.cell? ⟨gm, 0, none⟩ = some (.slice Al nl cl) := fun p => p.h.cell trivial (BL.cell 0)
          replace q3 : ∀ p : Kept (fun _ => True) u25, p.v.cell? ⟨gn, 0, none⟩ = some (.slice Am nm cm) := fun p => p.h.cell trivial (BM.cell 0)
          rw [HQY.out]
          go_wp2_with fail
          refine HK.out _ _ (Stand.of_below b) ?_
          clear HK
          clear b
          iterate 5 (refine mix_calmDk rfl rfl ?_; go_big_quiet_step (fail); refine wpQuiet_nil ?_)
          refine mix_loudDk rfl (by kernel_rfl) rfl ?_
          intro K1 hK1
          have HK := Lib.hid hK1
          clear hK1 
          go_wp2_with fail
          refine (law46_alive u25).mono ?_
          rintro x u26 ⟨rfl, b⟩
          replace HXR := Lib.hid (HXR.out.below b)
          replace HYR := Lib.hid (HYR.out.below b)
          replace HLR := Lib.hid (HLR.out.below b)
          replace HMR := Lib.hid (HMR.out.below b)
          replace HG1 := Lib.hid (HG1.out.below b)
          replace BX := BX.below b BX.lt
          replace BY := BY.below b BY.lt
          replace BL := BL.below b BL.lt
          replace BM := BM.below b BM.lt
          replace hBw := hBw.trans (b.mono hBw.size)
          replace q0 : ∀ p : Kept (fun _ => True) u26, p.v.cell? ⟨w2.heap.size, 0, none⟩ = some (.slice Ax nx cx) := fun p => p.h.cell trivial (BX.cell 0)
          replace q1 : ∀ p : Kept (fun _ => True) u26, p.v.cell? ⟨w2.heap.size + 1, 0, none⟩ = some (.slice Ay ny cy) := fun p => p.h.cell trivial (BY.cell 0)
          replace q2 : ∀ p : Kept (fun _ => True) u26, p.v.cell? ⟨gm, 0, none⟩ = some (.slice Al nl cl) := fun p => p.h.cell trivial (BL.cell 0)
          replace q3 : ∀ p : Kept (fun _ => True) u26, p.v.cell? ⟨gn, 0, none⟩ = some (.slice Am nm cm) := fun p => p.h.cell trivial (BM.cell 0)
          go_wp2_with fail
          refine HK.out _ _ (Stand.of_below b) ?_
          clear HK
          clear b
          iterate 2 (refine mix_calmDk rfl rfl ?_; go_big_quiet_step (fail); refine wpQuiet_nil ?_)
          refine mix_endDk ?_
          go_wp2_with fail
          go_ret
          exact ⟨rfl, hBw⟩
        | false =>
          have bd : Below u16.heap.size u16 u16.drew := (Below.refl _ _).drew
          replace HXR := Lib.hid (HXR.out.below bd)
          replace HYR := Lib.hid (HYR.out.below bd)
          replace HLR := Lib.hid (HLR.out.below bd)
          replace HMR := Lib.hid (HMR.out.below bd)
          replace BX := BX.below bd BX.lt
          replace BY := BY.below bd BY.lt
          replace BL := BL.below bd BL.lt
          replace BM := BM.below bd BM.lt
          replace hBw := hBw.trans (bd.mono hBw.size)
          clear bd
          refine wp_region_mixDk (M := []) (fun _ => True) [0, 1, 3, 5, 6, 2, 4, 7, 8, 9, 10, 11, 12, 13, 14, 15, 16, 18, 19, 17, 20, 21, 22, 23, 24, 25, 26, 27, 28, 29, 30, 32, 33, 31, 34, 35, 36, 37, 38, 39, 40, 41, 42, 43, 44, 45, 46] (by kernel_rfl) (by kernel_rfl) ?_
          obtain ⟨w8, hw8⟩ : ∃ q, u16.drew = q := ⟨_, rfl⟩
          rw [hw8] at HXR HYR HLR HMR BX BY BL BM hBw ⊢
          clear hw8
          have q0 : ∀ p : Kept (fun _ => True) w8, p.v.cell? ⟨w2.heap.size, 0, none⟩ = some (.slice Ax nx cx) := fun p => p.h.cell trivial (BX.cell 0)
          have q1 : ∀ p : Kept (fun _ => True) w8, p.v.cell? ⟨w2.heap.size + 1, 0, none⟩ = some (.slice Ay ny cy) := fun p => p.h.cell trivial (BY.cell 0)
          have q2 : ∀ p : Kept (fun _ => True) w8, p.v.cell? ⟨gm, 0, none⟩ = some (.slice Al nl cl) := fun p => p.h.cell trivial (BL.cell 0)
          have q3 : ∀ p : Kept (fun _ => True) w8, p.v.cell? ⟨gn, 0, none⟩ = some (.slice Am nm cm) := fun p => p.h.cell trivial (BM.cell 0)
          iterate 5 (refine mix_calmDk rfl rfl ?_; go_big_quiet_step (fail); refine wpQuiet_nil ?_)
          refine mix_loudDk rfl (by kernel_rfl) rfl ?_
          intro K1 hK1
          have HK := Lib.hid hK1
          clear hK1 
          go_wp2_with fail
          refine (spans_Join Ax Ay nx ny cx cy x y w8 HXR.out HYR.out HNX.out HNY.out (by omega) (by omega)).mono ?_
          rintro x u17 ⟨v, rfl, o1, b⟩
          replace HXR := Lib.hid (HXR.out.below b)
          replace HYR := Lib.hid (HYR.out.below b)
          replace HLR := Lib.hid (HLR.out.below b)
          replace HMR := Lib.hid (HMR.out.below b)
          replace BX := BX.below b BX.lt
          replace BY := BY.below b BY.lt
          replace BL := BL.below b BL.lt
          replace BM := BM.below b BM.lt
          replace hBw := hBw.trans (b.mono hBw.size)
          replace q0 : ∀ p : Kept (fun _ => True) u17, p.v.cell? ⟨w2.heap.size, 0, none⟩ = some (.slice Ax nx cx) := fun p => p.h.cell trivial (BX.cell 0)
          replace q1 : ∀ p : Kept (fun _ => True) u17, p.v.cell? ⟨w2.heap.size + 1, 0, none⟩ = some (.slice Ay ny cy) := fun p => p.h.cell trivial (BY.cell 0)
          replace q2 : ∀ p : Kept (fun _ => True) u17, p.v.cell? ⟨gm, 0, none⟩ = some (.slice Al nl cl) := fun p => p.h.cell trivial (BL.cell 0)
          replace q3 : ∀ p : Kept (fun _ => True) u17, p.v.cell? ⟨gn, 0, none⟩ = some (.slice Am nm cm) := fun p => p.h.cell trivial (BM.cell 0)
          rw [HJO.out] at o1
          obtain ⟨Ag, cg, rfl, hAg, hrAg⟩ := o1.named nj HNJ.out
          have HG1 := Lib.hid hrAg
          clear o1 hrAg
          go_wp2_with fail
          refine HK.out _ _ (Stand.of_below b) ?_
          clear HK
          clear b
          refine mix_loudDk rfl (by kernel_rfl) rfl ?_
          intro K1 hK1
          have HK := Lib.hid hK1
          clear hK1 
          go_wp2_with fail
          refine (set_Has Ag nj cg jo key u17 HG1.out HNJ.out HCJ.out (by omega)).mono ?_
          rintro x u18 ⟨rfl, b⟩
          replace HXR := Lib.hid (HXR.out.below b)
          replace HYR := Lib.hid (HYR.out.below b)
          replace HLR := Lib.hid (HLR.out.below b)
          replace HMR := Lib.hid (HMR.out.below b)
          replace HG1 := Lib.hid (HG1.out.below b)
          replace BX := BX.below b BX.lt
          replace BY := BY.below b BY.lt
          replace BL := BL.below b BL.lt
          replace BM := BM.below b BM.lt
          replace hBw := hBw.trans (b.mono hBw.size)
          replace q0 : ∀ p : Kept (fun _ => True) u18, p.v.cell? ⟨w2.heap.size, 0, none⟩ = some (.slice Ax nx cx) := fun p => p.h.cell trivial (BX.cell 0)
          replace q1 : ∀ p : Kept (fun _ => True) u18, p.v.cell? ⟨w2.heap.size + 1, 0, none⟩ = some (.slice Ay ny cy) := fun p => p.h.cell trivial (BY.cell 0)
          replace q2 : ∀ p : Kept (fun _ => True) u18, p.v.cell? ⟨gm, 0, none⟩ = some (.slice Al nl cl) := fun p => p.h.cell trivial (BL.cell 0)
          replace q3 : ∀ p : Kept (fun _ => True) u18, p.v.cell? ⟨gn, 0, none⟩ = some (.slice Am nm cm) := fun p => p.h.cell trivial (BM.cell 0)
          rw [HQJ.out]
          go_wp2_with fail
          refine HK.out _ _ (Stand.of_below b) ?_
          clear HK
          clear b
          refine mix_loudDk rfl (by kernel_rfl) rfl ?_
          intro K1 hK1
          have HK := Lib.hid hK1
          clear hK1 
          go_wp2_with fail
          refine (set_Has Ax nx cx x key u18 HXR.out HNX.out HCX.out (by omega)).mono ?_
          rintro x u19 ⟨rfl, b⟩
          replace HXR := Lib.hid (HXR.out.below b)
          replace HYR := Lib.hid (HYR.out.below b)
          replace HLR := Lib.hid (HLR.out.below b)
          replace HMR := Lib.hid (HMR.out.below b)
          replace HG1 := Lib.hid (HG1.out.below b)
          replace BX := BX.below b BX.lt
          replace BY := BY.below b BY.lt
          replace BL := BL.below b BL.lt
          replace BM := BM.below b BM.lt
          replace hBw := hBw.trans (b.mono hBw.size)
          replace q0 : ∀ p : Kept (fun _ => True) u19, p.v.cell? ⟨w2.heap.size, 0, none⟩ = some (.slice Ax nx cx) := fun p => p.h.cell trivial (BX.cell 0)
          replace q1 : ∀ p : Kept (fun _ => True) u19, p.v.cell? ⟨w2.heap.size + 1, 0, none⟩ = some (.slice Ay ny cy) := fun p => p.h.cell trivial (BY.cell 0)
          replace q2 : ∀ p : Kept (fun _ => True) u19, p.v.cell? ⟨gm, 0, none⟩ = some (.slice Al nl cl) := fun p => p.h.cell trivial (BL.cell 0)
          replace q3 : ∀ p : Kept (fun _ => True) u19, p.v.cell? ⟨gn, 0, none⟩ = some (.slice Am nm cm) := fun p => p.h.cell trivial (BM.cell 0)
          rw [HQX.out]
          go_wp2_with fail
          refine HK.out _ _ (Stand.of_below b) ?_
          clear HK
          clear b
          iterate 3 (refine mix_calmDk rfl rfl ?_; go_big_quiet_step (fail); refine wpQuiet_nil ?_)
          refine mix_loudDk rfl (by kernel_rfl) rfl ?_
          intro K1 hK1
          have HK := Lib.hid hK1
          clear hK1
          go_wp2_with fail
          refine HK.out _ _ (Stand.refl _ _) ?_
          clear HK
          iterate 3 (refine mix_calmDk rfl rfl ?_; go_big_quiet_step (fail); refine wpQuiet_nil ?_)
          iterate 4 (refine mix_calmDk rfl rfl ?_; go_big_quiet_step (fail); refine wpQuiet_nil ?_)
          refine mix_loudDk rfl (by kernel_rfl) rfl ?_
          intro K1 hK1
          have HK := Lib.hid hK1
          clear hK1 
          go_wp2_with fail
          refine (set_Has Am nm cm me key u19 HMR.out HNM.out HCM.out (by omega)).mono ?_
          rintro x u20 ⟨rfl, b⟩
          replace HXR := Lib.hid (HXR.out.below b)
          replace HYR := Lib.hid (HYR.out.below b)
          replace HLR := Lib.hid (HLR.out.below b)
          replace HMR := Lib.hid (HMR.out.below b)
          replace HG1 := Lib.hid (HG1.out.below b)
          replace BX := BX.below b BX.lt
          replace BY := BY.below b BY.lt
          replace BL := BL.below b BL.lt
          replace BM := BM.below b BM.lt
          replace hBw := hBw.trans (b.mono hBw.size)
          replace q0 : ∀ p : Kept (fun _ => True) u20, p.v.cell? ⟨w2.heap.size, 0, none⟩ = some (.slice Ax nx cx) := fun p => p.h.cell trivial (BX.cell 0)
          replace q1 : ∀ p : Kept (fun _ => True) u20, p.v.cell? ⟨w2.heap.size + 1, 0, none⟩ = some (.slice Ay ny cy) := fun p => p.h.cell trivial (BY.cell 0)
          replace q2 : ∀ p : Kept (fun _ => True) u20, p.v.cell? ⟨gm, 0, none⟩ = some (.slice Al nl cl) := fun p => p.h.cell trivial (BL.cell 0)
          replace q3 : ∀ p : Kept (fun _ => True) u20, p.v.cell? ⟨gn, 0, none⟩ = some (.slice Am nm cm) := fun p => p.h.cell trivial (BM.cell 0)
          rw [HQM.out]
          go_wp2_with fail
          refine HK.out _ _ (Stand.of_below b) ?_
          clear HK
          clear b
          refine mix_loudDk rfl (by kernel_rfl) rfl ?_
          intro K1 hK1
          have HK := Lib.hid hK1
          clear hK1 
          go_wp2_with fail
          refine (set_Has Ax nx cx x key u20 HXR.out HNX.out HCX.out (by omega)).mono ?_
          rintro x u21 ⟨rfl, b⟩
          replace HXR := Lib.hid (HXR.out.below b)
          replace HYR := Lib.hid (HYR.out.below b)
          replace HLR := Lib.hid (HLR.out.below b)
          replace HMR := Lib.hid (HMR.out.below b)
          replace HG1 := Lib.hid (HG1.out.below b)
          replace BX := BX.below b BX.lt
          replace BY := BY.below b BY.lt
          replace BL := BL.below b BL.lt
          replace BM := BM.below b BM.lt
          replace hBw := hBw.trans (b.mono hBw.size)
          replace q0 : ∀ p : Kept (fun _ => True) u21, p.v.cell? ⟨w2.heap.size, 0, none⟩ = some (.slice Ax nx cx) := fun p => p.h.cell trivial (BX.cell 0)
          replace q1 : ∀ p : Kept (fun _ => True) u21, p.v.cell? ⟨w2.heap.size + 1, 0, none⟩ = some (.slice Ay ny cy) := fun p => p.h.cell trivial (BY.cell 0)
          replace q2 : ∀ p : Kept (fun _ => True) u21, p.v.cell? ⟨gm, 0, none⟩ = some (.slice Al nl cl) := fun p => p.h.cell trivial (BL.cell 0)
          replace q3 : ∀ p : Kept (fun _ => True) u21, p.v.cell? ⟨gn, 0, none⟩ = some (.slice Am nm cm) := fun p => p.h.cell trivial (BM.cell 0)
          rw [HQX.out]
          go_wp2_with fail
          refine HK.out _ _ (Stand.of_below b) ?_
          clear HK
          clear b
          iterate 3 (refine mix_calmDk rfl rfl ?_; go_big_quiet_step (fail); refine wpQuiet_nil ?_)
          refine mix_loudDk rfl (by kernel_rfl) rfl ?_
          intro K1 hK1
          have HK := Lib.hid hK1
          clear hK1 
          go_wp2_with fail
          refine (set_Has Ay ny cy y key u21 HYR.out HNY.out HCY.out (by omega)).mono ?_
          rintro x u22 ⟨rfl, b⟩
          replace HXR := Lib.hid (HXR.out.below b)
          replace HYR := Lib.hid (HYR.out.below b)
          replace HLR := Lib.hid (HLR.out.below b)
          replace HMR := Lib.hid (HMR.out.below b)
          replace HG1 := Lib.hid (HG1.out.below b)
          replace BX := BX.below b BX.lt
          replace BY := BY.below b BY.lt
          replace BL := BL.below b BL.lt
          replace BM := BM.below b BM.lt
          replace hBw := hBw.trans (b.mono hBw.size)
          replace q0 : ∀ p : Kept (fun _ => True) u22, p.v.cell? ⟨w2.heap.size, 0, none⟩ = some (.slice Ax nx cx) := fun p => p.h.cell trivial (BX.cell 0)
          replace q1 : ∀ p : Kept (fun _ => True) u22, p.v.cell? ⟨w2.heap.size + 1, 0, none⟩ = some (.slice Ay ny cy) := fun p => p.h.cell trivial (BY.cell 0)
          replace q2 : ∀ p : Kept (fun _ => True) u22, p.v.cell? ⟨gm, 0, none⟩ = some (.slice Al nl cl) := fun p => p.h.cell trivial (BL.cell 0)
          replace q3 : ∀ p : Kept (fun _ => True) u22, p.v.cell? ⟨gn, 0, none⟩ = some (.slice Am nm cm) := fun p => p.h.cell trivial (BM.cell 0)
          rw [HQY.out]
          go_wp2_with fail
          refine HK.out _ _ (Stand.of_below b) ?_
          clear HK
          clear b
          iterate 4 (refine mix_calmDk rfl rfl ?_; go_big_quiet_step (fail); refine wpQuiet_nil ?_)
          iterate 4 (refine mix_calmDk rfl rfl ?_; go_big_quiet_step (fail); refine wpQuiet_nil ?_)
          refine mix_loudDk rfl (by kernel_rfl) rfl ?_
          intro K1 hK1
          have HK := Lib.hid hK1
          clear hK1 
          go_wp2_with fail
          refine (set_Has Al nl cl le key u22 HLR.out HNL.out HCL.out (by omega)).mono ?_
          rintro x u23 ⟨rfl, b⟩
          replace HXR := Lib.hid (HXR.out.below b)
          replace HYR := Lib.hid (HYR.out.below b)
          replace HLR := Lib.hid (HLR.out.below b)
          replace HMR := Lib.hid (HMR.out.below b)
          replace HG1 := Lib.hid (HG1.out.below b)
          replace BX := BX.below b BX.lt
          replace BY := BY.below b BY.lt
          replace BL := BL.below b BL.lt
          replace BM := BM.below b BM.lt
          replace hBw := hBw.trans (b.mono hBw.size)
          replace q0 : ∀ p : Kept (fun _ => True) u23, p.v.cell? ⟨w2.heap.size, 0, none⟩ = some (.slice Ax nx cx) := fun p => p.h.cell trivial (BX.cell 0)
          replace q1 : ∀ p : Kept (fun _ => True) u23, p.v.cell? ⟨w2.heap.size + 1, 0, none⟩ = some (.slice Ay ny cy) := fun p => p.h.cell trivial (BY.cell 0)
          replace q2 : ∀ p : Kept (fun _ => True) u23, p.v.cell? ⟨gm, 0, none⟩ = some (.slice Al nl cl) := fun p => p.h.cell trivial (BL.cell 0)
          replace q3 : ∀ p : Kept (fun _ => True) u23, p.v.cell? ⟨gn, 0, none⟩ = some (.slice Am nm cm) := fun p => p.h.cell trivial (BM.cell 0)
          rw [HQL.out]
          go_wp2_with fail
          refine HK.out _ _ (Stand.of_below b) ?_
          clear HK
          clear b
          refine mix_loudDk rfl (by kernel_rfl) rfl ?_
          intro K1 hK1
          have HK := Lib.hid hK1
          clear hK1 
          go_wp2_with fail
          refine (set_Has Ax nx cx x key u23 HXR.out HNX.out HCX.out (by omega)).mono ?_
          rintro x u24 ⟨rfl, b⟩
          replace HXR := Lib.hid (HXR.out.below b)
          replace HYR := Lib.hid (HYR.out.below b)
          replace HLR := Lib.hid (HLR.out.below b)
          replace HMR := Lib.hid (HMR.out.below b)
          replace HG1 := Lib.hid (HG1.out.below b)
          replace BX := BX.below b BX.lt
          replace BY := BY.below b BY.lt
          replace BL := BL.below b BL.lt
          replace BM := BM.below b BM.lt
          replace hBw := hBw.trans (b.mono hBw.size)
          replace q0 : ∀ p : Kept (fun _ => True) u24, p.v.cell? ⟨w2.heap.size, 0, none⟩ = some (.slice Ax nx cx) := fun p => p.h.cell trivial (BX.cell 0)
          replace q1 : ∀ p : Kept (fun _ => True) u24, p.v.cell? ⟨w2.heap.size + 1, 0, none⟩ = some (.slice Ay ny cy) := fun p => p.h.cell trivial (BY.cell 0)
          replace q2 : ∀ p : Kept (fun _ => True) u24, p.v.cell? ⟨gm, 0, none⟩ = some (.slice Al nl cl) := fun p => p.h.cell trivial (BL.cell 0)
          replace q3 : ∀ p : Kept (fun _ => True) u24, p.v.cell? ⟨gn, 0, none⟩ = some (.slice Am nm cm) := fun p => p.h.cell trivial (BM.cell 0)
          rw [HQX.out]
          go_wp2_with fail
          refine HK.out _ _ (Stand.of_below b) ?_
          clear HK
          clear b
          iterate 3 (refine mix_calmDk rfl rfl ?_; go_big_quiet_step (fail); refine wpQuiet_nil ?_)
          refine mix_loudDk rfl (by kernel_rfl) rfl ?_
          intro K1 hK1
          have HK := Lib.hid hK1
          clear hK1 
          go_wp2_with fail
          refine (set_Has Ay ny cy y key u24 HYR.out HNY.out HCY.out (by omega)).mono ?_
          rintro x u25 ⟨rfl, b⟩
          replace HXR := Lib.hid (HXR.out.below b)
          replace HYR := Lib.hid (HYR.out.below b)
          replace HLR := Lib.hid (HLR.out.below b)
          replace HMR := Lib.hid (HMR.out.below b)
          replace HG1 := Lib.hid (HG1.out.below b)
          replace BX := BX.below b BX.lt
          replace BY := BY.below b BY.lt
          replace BL := BL.below b BL.lt
          replace BM := BM.below b BM.lt
          replace hBw := hBw.trans (b.mono hBw.size)
          replace q0 : ∀ p : Kept (fun _ => True) u25, p.v.cell? ⟨w2.heap.size, 0, none⟩ = some (.slice Ax nx cx) := fun p => p.h.cell trivial (BX.cell 0)
          replace q1 : ∀ p : Kept (fun _ => True) u25, p.v.cell? ⟨w2.heap.size + 1, 0, none⟩ = some (.slice Ay ny cy) := fun p => p.h.cell trivial (BY.cell 0)
          replace q2 : ∀ p : Kept (fun _ => True) u25, p.v.cell? ⟨gm, 0, none⟩ = some (.slice Al nl cl) := fun p => p.h.cell trivial (BL.cell 0)
          replace q3 : ∀ p : Kept (fun _ => True) u25, p.v.cell? ⟨gn, 0, none⟩ = some (.slice Am nm cm) := fun p => p.h.cell trivial (BM.cell 0)
          rw [HQY.out]
          go_wp2_with fail
          refine HK.out _ _ (Stand.of_below b) ?_
          clear HK
          clear b
          iterate 5 (refine mix_calmDk rfl rfl ?_; go_big_quiet_step (fail); refine wpQuiet_nil ?_)
          refine mix_loudDk rfl (by kernel_rfl) rfl ?_
          intro K1 hK1
          have HK := Lib.hid hK1
          clear hK1 
          go_wp2_with fail
          refine (law46_alive u25).mono ?_
          rintro x u26 ⟨rfl, b⟩
          replace HXR := Lib.hid (HXR.out.below b)
          replace HYR := Lib.hid (HYR.out.below b)
          replace HLR := Lib.hid (HLR.out.below b)
          replace HMR := Lib.hid (HMR.out.below b)
          replace HG1 := Lib.hid (HG1.out.below b)
          replace BX := BX.below b BX.lt
          replace BY := BY.below b BY.lt
          replace BL := BL.below b BL.lt
          replace BM := BM.below b BM.lt
          replace hBw := hBw.trans (b.mono hBw.size)
          replace q0 : ∀ p : Kept (fun _ => True) u26, p.v.cell? ⟨w2.heap.size, 0, none⟩ = some (.slice Ax nx cx) := fun p => p.h.cell trivial (BX.cell 0)
          replace q1 : ∀ p : Kept (fun _ => True) u26, p.v.cell? ⟨w2.heap.size + 1, 0, none⟩ = some (.slice Ay ny cy) := fun p => p.h.cell trivial (BY.cell 0)
          replace q2 : ∀ p : Kept (fun _ => True) u26, p.v.cell? ⟨gm, 0, none⟩ = some (.slice Al nl cl) := fun p => p.h.cell trivial (BL.cell 0)
          replace q3 : ∀ p : Kept (fun _ => True) u26, p.v.cell? ⟨gn, 0, none⟩ = some (.slice Am nm cm) := fun p => p.h.cell trivial (BM.cell 0)
          go_wp2_with fail
          refine HK.out _ _ (Stand.of_below b) ?_
          clear HK
          clear b
          iterate 2 (refine mix_calmDk rfl rfl ?_; go_big_quiet_step (fail); refine wpQuiet_nil ?_)
          refine mix_endDk ?_
          go_wp2_with fail
          go_ret
          exact ⟨rfl, hBw⟩
      | false =>
        cases qy with
        | true =>
          have bd : Below u16.heap.size u16 u16.drew := (Below.refl _ _).drew
          replace HXR := Lib.hid (HXR.out.below bd)
          replace HYR := Lib.hid (HYR.out.below bd)
          replace HLR := Lib.hid (HLR.out.below bd)
          replace HMR := Lib.hid (HMR.out.below bd)
          replace BX := BX.below bd BX.lt
          replace BY := BY.below bd BY.lt
          replace BL := BL.below bd BL.lt
          replace BM := BM.below bd BM.lt
          replace hBw := hBw.trans (bd.mono hBw.size)
          clear bd
          refine wp_region_mixDk (M := []) (fun _ => True) [0, 1, 3, 5, 6, 2, 4, 7, 8, 9, 10, 11, 12, 13, 14, 15, 16, 18, 19, 17, 20, 21, 22, 23, 24, 25, 26, 27, 28, 29, 30, 32, 33, 31, 34, 35, 36, 37, 38, 39, 40, 41, 42, 43, 44, 45, 46] (by kernel_rfl) (by kernel_rfl) ?_
          obtain ⟨w8, hw8⟩ : ∃ q, u16.drew = q := ⟨_, rfl⟩
          rw [hw8] at HXR HYR HLR HMR BX BY BL BM hBw ⊢
          clear hw8
          have q0 : ∀ p : Kept (fun _ => True) w8, p.v.cell? ⟨w2.heap.size, 0, none⟩ = some (.slice Ax nx cx) := fun p => p.h.cell trivial (BX.cell 0)
          have q1 : ∀ p : Kept (fun _ => True) w8, p.v.cell? ⟨w2.heap.size + 1, 0, none⟩ = some (.slice Ay ny cy) := fun p => p.h.cell trivial (BY.cell 0)
          have q2 : ∀ p : Kept (fun _ => True) w8, p.v.cell? ⟨gm, 0, none⟩ = some (.slice Al nl cl) := fun p => p.h.cell trivial (BL.cell 0)
          have q3 : ∀ p : Kept (fun _ => True) w8, p.v.cell? ⟨gn, 0, none⟩ = some (.slice Am nm cm) := fun p => p.h.cell trivial (BM.cell 0)
          iterate 5 (refine mix_calmDk rfl rfl ?_; go_big_quiet_step (fail); refine wpQuiet_nil ?_)
          refine mix_loudDk rfl (by kernel_rfl) rfl ?_
          intro K1 hK1
          have HK := Lib.hid hK1
          clear hK1 
          go_wp2_with fail
          refine (spans_Join Ax Ay nx ny cx cy x y w8 HXR.out HYR.out HNX.out HNY.out (by omega) (by omega)).mono ?_
          rintro x u17 ⟨v, rfl, o1, b⟩
          replace HXR := Lib.hid (HXR.out.below b)
          replace HYR := Lib.hid (HYR.out.below b)
          replace HLR := Lib.hid (HLR.out.below b)
          replace HMR := Lib.hid (HMR.out.below b)
          replace BX := BX.below b BX.lt
          replace BY := BY.below b BY.lt
          replace BL := BL.below b BL.lt
          replace BM := BM.below b BM.lt
          replace hBw := hBw.trans (b.mono hBw.size)
          replace q0 : ∀ p : Kept (fun _ => True) u17, p.v.cell? ⟨w2.heap.size, 0, none⟩ = some (.slice Ax nx cx) := fun p => p.h.cell trivial (BX.cell 0)
          replace q1 : ∀ p : Kept (fun _ => True) u17, p.v.cell? ⟨w2.heap.size + 1, 0, none⟩ = some (.slice Ay ny cy) := fun p => p.h.cell trivial (BY.cell 0)
          replace q2 : ∀ p : Kept (fun _ => True) u17, p.v.cell? ⟨gm, 0, none⟩ = some (.slice Al nl cl) := fun p => p.h.cell trivial (BL.cell 0)
          replace q3 : ∀ p : Kept (fun _ => True) u17, p.v.cell? ⟨gn, 0, none⟩ = some (.slice Am nm cm) := fun p => p.h.cell trivial (BM.cell 0)
          rw [HJO.out] at o1
          obtain ⟨Ag, cg, rfl, hAg, hrAg⟩ := o1.named nj HNJ.out
          have HG1 := Lib.hid hrAg
          clear o1 hrAg
          go_wp2_with fail
          refine HK.out _ _ (Stand.of_below b) ?_
          clear HK
          clear b
          refine mix_loudDk rfl (by kernel_rfl) rfl ?_
          intro K1 hK1
          have HK := Lib.hid hK1
          clear hK1 
          go_wp2_with fail
          refine (set_Has Ag nj cg jo key u17 HG1.out HNJ.out HCJ.out (by omega)).mono ?_
          rintro x u18 ⟨rfl, b⟩
          replace HXR := Lib.hid (HXR.out.below b)
          replace HYR := Lib.hid (HYR.out.below b)
          replace HLR := Lib.hid (HLR.out.below b)
          replace HMR := Lib.hid (HMR.out.below b)
          replace HG1 := Lib.hid (HG1.out.below b)
          replace BX := BX.below b BX.lt
          replace BY := BY.below b BY.lt
          replace BL := BL.below b BL.lt
          replace BM := BM.below b BM.lt
          replace hBw := hBw.trans (b.mono hBw.size)
          replace q0 : ∀ p : Kept (fun _ => True) u18, p.v.cell? ⟨w2.heap.size, 0, none⟩ = some (.slice Ax nx cx) := fun p => p.h.cell trivial (BX.cell 0)
          replace q1 : ∀ p : Kept (fun _ => True) u18, p.v.cell? ⟨w2.heap.size + 1, 0, none⟩ = some (.slice Ay ny cy) := fun p => p.h.cell trivial (BY.cell 0)
          replace q2 : ∀ p : Kept (fun _ => True) u18, p.v.cell? ⟨gm, 0, none⟩ = some (.slice Al nl cl) := fun p => p.h.cell trivial (BL.cell 0)
          replace q3 : ∀ p : Kept (fun _ => True) u18, p.v.cell? ⟨gn, 0, none⟩ = some (.slice Am nm cm) := fun p => p.h.cell trivial (BM.cell 0)
          rw [HQJ.out]
          go_wp2_with fail
          refine HK.out _ _ (Stand.of_below b) ?_
          clear HK
          clear b
          refine mix_loudDk rfl (by kernel_rfl) rfl ?_
          intro K1 hK1
          have HK := Lib.hid hK1
          clear hK1 
          go_wp2_with fail
          refine (set_Has Ax nx cx x key u18 HXR.out HNX.out HCX.out (by omega)).mono ?_
          rintro x u19 ⟨rfl, b⟩
          replace HXR := Lib.hid (HXR.out.below b)
          replace HYR := Lib.hid (HYR.out.below b)
          replace HLR := Lib.hid (HLR.out.below b)
          replace HMR := Lib.hid (HMR.out.below b)
          replace HG1 := Lib.hid (HG1.out.below b)
          replace BX := BX.below b BX.lt
          replace BY := BY.below b BY.lt
          replace BL := BL.below b BL.lt
          replace BM := BM.below b BM.lt
          replace hBw := hBw.trans (b.mono hBw.size)
          replace q0 : ∀ p : Kept (fun _ => True) u19, p.v.cell? ⟨w2.heap.size, 0, none⟩ = some (.slice Ax nx cx) := fun p => p.h.cell trivial (BX.cell 0)
          replace q1 : ∀ p : Kept (fun _ => True) u19, p.v.cell? ⟨w2.heap.size + 1, 0, none⟩ = some (.slice Ay ny cy) := fun p => p.h.cell trivial (BY.cell 0)
          replace q2 : ∀ p : Kept (fun _ => True) u19, p.v.cell? ⟨gm, 0, none⟩ = some (.slice Al nl cl) := fun p => p.h.cell trivial (BL.cell 0)
          replace q3 : ∀ p : Kept (fun _ => True) u19, p.v.cell? ⟨gn, 0, none⟩ = some (.slice Am nm cm) := fun p => p.h.cell trivial (BM.cell 0)
          rw [HQX.out]
          go_wp2_with fail
          refine HK.out _ _ (Stand.of_below b) ?_
          clear HK
          clear b
          iterate 3 (refine mix_calmDk rfl rfl ?_; go_big_quiet_step (fail); refine wpQuiet_nil ?_)
          refine mix_loudDk rfl (by kernel_rfl) rfl ?_
          intro K1 hK1
          have HK := Lib.hid hK1
          clear hK1 
          go_wp2_with fail
          refine (set_Has Ay ny cy y key u19 HYR.out HNY.out HCY.out (by omega)).mono ?_
          rintro x u20 ⟨rfl, b⟩
          replace HXR := Lib.hid (HXR.out.below b)
          replace HYR := Lib.hid (HYR.out.below b)
          replace HLR := Lib.hid (HLR.out.below b)
          replace HMR := Lib.hid (HMR.out.below b)
          replace HG1 := Lib.hid (HG1.out.below b)
          replace BX := BX.below b BX.lt
          replace BY := BY.below b BY.lt
          replace BL := BL.below b BL.lt
          replace BM := BM.below b BM.lt
          replace hBw := hBw.trans (b.mono hBw.size)
          replace q0 : ∀ p : Kept (fun _ => True) u20, p.v.cell? ⟨w2.heap.size, 0, none⟩ = some (.slice Ax nx cx) := fun p => p.h.cell trivial (BX.cell 0)
          replace q1 : ∀ p : Kept (fun _ => True) u20, p.v.cell? ⟨w2.heap.size + 1, 0, none⟩ = some (.slice Ay ny cy) := fun p => p.h.cell trivial (BY.cell 0)
          replace q2 : ∀ p : Kept (fun _ => True) u20, p.v.cell? ⟨gm, 0, none⟩ = some (.slice Al nl cl) := fun p => p.h.cell trivial (BL.cell 0)
          replace q3 : ∀ p : Kept (fun _ => True) u20, p.v.cell? ⟨gn, 0, none⟩ = some (.slice Am nm cm) := fun p => p.h.cell trivial (BM.cell 0)
          rw [HQY.out]
          go_wp2_with fail
          refine HK.out _ _ (Stand.of_below b) ?_
          clear HK
          clear b
          iterate 3 (refine mix_calmDk rfl rfl ?_; go_big_quiet_step (fail); refine wpQuiet_nil ?_)
          iterate 4 (refine mix_calmDk rfl rfl ?_; go_big_quiet_step (fail); refine wpQuiet_nil ?_)
          refine mix_loudDk rfl (by kernel_rfl) rfl ?_
          intro K1 hK1
          have HK := Lib.hid hK1
          clear hK1 
          go_wp2_with fail
          refine (set_Has Am nm cm me key u20 HMR.out HNM.out HCM.out (by omega)).mono ?_
          rintro x u21 ⟨rfl, b⟩
          replace HXR := Lib.hid (HXR.out.below b)
          replace HYR := Lib.hid (HYR.out.below b)
          replace HLR := Lib.hid (HLR.out.below b)
          replace HMR := Lib.hid (HMR.out.below b)
          replace HG1 := Lib.hid (HG1.out.below b)
          replace BX := BX.below b BX.lt
          replace BY := BY.below b BY.lt
          replace BL := BL.below b BL.lt
          replace BM := BM.below b BM.lt
          replace hBw := hBw.trans (b.mono hBw.size)
          replace q0 : ∀ p : Kept (fun _ => True) u21, p.v.cell? ⟨w2.heap.size, 0, none⟩ = some (.slice Ax nx cx) := fun p => p.h.cell trivial (BX.cell 0)
          replace q1 : ∀ p : Kept (fun _ => True) u21, p.v.cell? ⟨w2.heap.size + 1, 0, none⟩ = some (.slice Ay ny cy) := fun p => p.h.cell trivial (BY.cell 0)
          replace q2 : ∀ p : Kept (fun _ => True) u21, p.v.cell? ⟨gm, 0, none⟩ = some (.slice Al nl cl) := fun p => p.h.cell trivial (BL.cell 0)
          replace q3 : ∀ p : Kept (fun _ => True) u21, p.v.cell? ⟨gn, 0, none⟩ = some (.slice Am nm cm) := fun p => p.h.cell trivial (BM.cell 0)
          rw [HQM.out]
          go_wp2_with fail
          refine HK.out _ _ (Stand.of_below b) ?_
          clear HK
          clear b
          refine mix_loudDk rfl (by kernel_rfl) rfl ?_
          intro K1 hK1
          have HK := Lib.hid hK1
          clear hK1 
          go_wp2_with fail
          refine (set_Has Ax nx cx x key u21 HXR.out HNX.out HCX.out (by omega)).mono ?_
          rintro x u22 ⟨rfl, b⟩
          replace HXR := Lib.hid (HXR.out.below b)
          replace HYR := Lib.hid (HYR.out.below b)
          replace HLR := Lib.hid (HLR.out.below b)
          replace HMR := Lib.hid (HMR.out.below b)
          replace HG1 := Lib.hid (HG1.out.below b)
          replace BX := BX.below b BX.lt
          replace BY := BY.below b BY.lt
          replace BL := BL.below b BL.lt
          replace BM := BM.below b BM.lt
          replace hBw := hBw.trans (b.mono hBw.size)
          replace q0 : ∀ p : Kept (fun _ => True) u22, p.v.cell? ⟨w2.heap.size, 0, none⟩ = some (.slice Ax nx cx) := fun p => p.h.cell trivial (BX.cell 0)
          replace q1 : ∀ p : Kept (fun _ => True) u22, p.v.cell? ⟨w2.heap.size + 1, 0, none⟩ = some (.slice Ay ny cy) := fun p => p.h.cell trivial (BY.cell 0)
          replace q2 : ∀ p : Kept (fun _ => True) u22, p.v.cell? ⟨gm, 0, none⟩ = some (.slice Al nl cl) := fun p => p.h.cell trivial (BL.cell 0)
          replace q3 : ∀ p : Kept (fun _ => True) u22, p.v.cell? ⟨gn, 0, none⟩ = some (.slice Am nm cm) := fun p => p.h.cell trivial (BM.cell 0)
          rw [HQX.out]
          go_wp2_with fail
          refine HK.out _ _ (Stand.of_below b) ?_
          clear HK
          clear b
          iterate 3 (refine mix_calmDk rfl rfl ?_; go_big_quiet_step (fail); refine wpQuiet_nil ?_)
          refine mix_loudDk rfl (by kernel_rfl) rfl ?_
          intro K1 hK1
          have HK := Lib.hid hK1
          clear hK1
          go_wp2_with fail
          refine HK.out _ _ (Stand.refl _ _) ?_
          clear HK
          iterate 4 (refine mix_calmDk rfl rfl ?_; go_big_quiet_step (fail); refine wpQuiet_nil ?_)
          iterate 4 (refine mix_calmDk rfl rfl ?_; go_big_quiet_step (fail); refine wpQuiet_nil ?_)
          refine mix_loudDk rfl (by kernel_rfl) rfl ?_
          intro K1 hK1
          have HK := Lib.hid hK1
          clear hK1 
          go_wp2_with fail
          refine (set_Has Al nl cl le key u22 HLR.out HNL.out HCL.out (by omega)).mono ?_
          rintro x u23 ⟨rfl, b⟩
          replace HXR := Lib.hid (HXR.out.below b)
          replace HYR := Lib.hid (HYR.out.below b)
          replace HLR := Lib.hid (HLR.out.below b)
          replace HMR := Lib.hid (HMR.out.below b)
          replace HG1 := Lib.hid (HG1.out.below b)
          replace BX := BX.below b BX.lt
          replace BY := BY.below b BY.lt
          replace BL := BL.below b BL.lt
          replace BM := BM.below b BM.lt
          replace hBw := hBw.trans (b.mono hBw.size)
          replace q0 : ∀ p : Kept (fun _ => True) u23, p.v.cell? ⟨w2.heap.size, 0, none⟩ = some (.slice Ax nx cx) := fun p => p.h.cell trivial (BX.cell 0)
          replace q1 : ∀ p : Kept (fun _ => True) u23, p.v.cell? ⟨w2.heap.size + 1, 0, none⟩ = some (.slice Ay ny cy) := fun p => p.h.cell trivial (BY.cell 0)
          replace q2 : ∀ p : Kept (fun _ => True) u23, p.v.cell? ⟨gm, 0, none⟩ = some (.slice Al nl cl) := fun p => p.h.cell trivial (BL.cell 0)
          replace q3 : ∀ p : Kept (fun _ => True) u23, p.v.cell? ⟨gn, 0, none⟩ = some (.slice Am nm cm) := fun p => p.h.cell trivial (BM.cell 0)
          rw [HQL.out]
          go_wp2_with fail
          refine HK.out _ _ (Stand.of_below b) ?_
          clear HK
          clear b
          refine mix_loudDk rfl (by kernel_rfl) rfl ?_
          intro K1 hK1
          have HK := Lib.hid hK1
          clear hK1 
          go_wp2_with fail
          refine (set_Has Ax nx cx x key u23 HXR.out HNX.out HCX.out (by omega)).mono ?_
          rintro x u24 ⟨rfl, b⟩
          replace HXR := Lib.hid (HXR.out.below b)
          replace HYR := Lib.hid (HYR.out.below b)
          replace HLR := Lib.hid (HLR.out.below b)
          replace HMR := Lib.hid (HMR.out.below b)
          replace HG1 := Lib.hid (HG1.out.below b)
          replace BX := BX.below b BX.lt
          replace BY := BY.below b BY.lt
          replace BL := BL.below b BL.lt
          replace BM := BM.below b BM.lt
          replace hBw := hBw.trans (b.mono hBw.size)
          replace q0 : ∀ p : Kept (fun _ => True) u24, p.v.cell? ⟨w2.heap.size, 0, none⟩ = some (.slice Ax nx cx) := fun p => p.h.cell trivial (BX.cell 0)
          replace q1 : ∀ p : Kept (fun _ => True) u24, p.v.cell? ⟨w2.heap.size + 1, 0, none⟩ = some (.slice Ay ny cy) := fun p => p.h.cell trivial (BY.cell 0)
          replace q2 : ∀ p : Kept (fun _ => True) u24, p.v.cell? ⟨gm, 0, none⟩ = some (.slice Al nl cl) := fun p => p.h.cell trivial (BL.cell 0)
          replace q3 : ∀ p : Kept (fun _ => True) u24, p.v.cell? ⟨gn, 0, none⟩ = some (.slice Am nm cm) := fun p => p.h.cell trivial (BM.cell 0)
          rw [HQX.out]
          go_wp2_with fail
          refine HK.out _ _ (Stand.of_below b) ?_
          clear HK
          clear b
          iterate 3 (refine mix_calmDk rfl rfl ?_; go_big_quiet_step (fail); refine wpQuiet_nil ?_)
          refine mix_loudDk rfl (by kernel_rfl) rfl ?_
          intro K1 hK1
          have HK := Lib.hid hK1
          clear hK1
          go_wp2_with fail
          refine HK.out _ _ (Stand.refl _ _) ?_
          clear HK
          iterate 5 (refine mix_calmDk rfl rfl ?_; go_big_quiet_step (fail); refine wpQuiet_nil ?_)
          refine mix_loudDk rfl (by kernel_rfl) rfl ?_
          intro K1 hK1
          have HK := Lib.hid hK1
          clear hK1 
          go_wp2_with fail
          refine (law46_alive u24).mono ?_
          rintro x u25 ⟨rfl, b⟩
          replace HXR := Lib.hid (HXR.out.below b)
          replace HYR := Lib.hid (HYR.out.below b)
          replace HLR := Lib.hid (HLR.out.below b)
          replace HMR := Lib.hid (HMR.out.below b)
          replace HG1 := Lib.hid (HG1.out.below b)
          replace BX := BX.below b BX.lt
          replace BY := BY.below b BY.lt
          replace BL := BL.below b BL.lt
          replace BM := BM.below b BM.lt
          replace hBw := hBw.trans (b.mono hBw.size)
          replace q0 : ∀ p : Kept (fun _ => True) u25, p.v.cell? ⟨w2.heap.size, 0, none⟩ = some (.slice Ax nx cx) := fun p => p.h.cell trivial (BX.cell 0)
          replace q1 : ∀ p : Kept (fun _ => True) u25, p.v.cell? ⟨w2.heap.size + 1, 0, none⟩ = some (.slice Ay ny cy) := fun p => p.h.cell trivial (BY.cell 0)
          replace q2 : ∀ p : Kept (fun _ => True) u25, p.v.cell? ⟨gm, 0, none⟩ = some (.slice Al nl cl) := fun p => p.h.cell trivial (BL.cell 0)
          replace q3 : ∀ p : Kept (fun _ => True) u25, p.v.cell? ⟨gn, 0, none⟩ = some (.slice Am nm cm) := fun p => p.h.cell trivial (BM.cell 0)
          go_wp2_with fail
          refine HK.out _ _ (Stand.of_below b) ?_
          clear HK
          clear b
          iterate 2 (refine mix_calmDk rfl rfl ?_; go_big_quiet_step (fail); refine wpQuiet_nil ?_)
          refine mix_endDk ?_
          go_wp2_with fail
          go_ret
          exact ⟨rfl, hBw⟩
        | false =>
          have bd : Below u16.heap.size u16 u16.drew := (Below.refl _ _).drew
          replace HXR := Lib.hid (HXR.out.below bd)
          replace HYR := Lib.hid (HYR.out.below bd)
          replace HLR := Lib.hid (HLR.out.below bd)
          replace HMR := Lib.hid (HMR.out.below bd)
          replace BX := BX.below bd BX.lt
          replace BY := BY.below bd BY.lt
          replace BL := BL.below bd BL.lt
          replace BM := BM.below bd BM.lt
          replace hBw := hBw.trans (bd.mono hBw.size)
          clear bd
          refine wp_region_mixDk (M := []) (fun _ => True) [0, 1, 3, 5, 6, 2, 4, 7, 8, 9, 10, 11, 12, 13, 14, 15, 16, 18, 19, 17, 20, 21, 22, 23, 24, 25, 26, 27, 28, 29, 30, 32, 33, 31, 34, 35, 36, 37, 38, 39, 40, 41, 42, 43, 44, 45, 46] (by kernel_rfl) (by kernel_rfl) ?_
          obtain ⟨w8, hw8⟩ : ∃ q, u16.drew = q := ⟨_, rfl⟩
          rw [hw8] at HXR HYR HLR HMR BX BY BL BM hBw ⊢
          clear hw8
          have q0 : ∀ p : Kept (fun _ => True) w8, p.v.cell? ⟨w2.heap.size, 0, none⟩ = some (.slice Ax nx cx) := fun p => p.h.cell trivial (BX.cell 0)
          have q1 : ∀ p : Kept (fun _ => True) w8, p.v.cell? ⟨w2.heap.size + 1, 0, none⟩ = some (.slice Ay ny cy) := fun p => p.h.cell trivial (BY.cell 0)
          have q2 : ∀ p : Kept (fun _ => True) w8, p.v.cell? ⟨gm, 0, none⟩ = some (.slice Al nl cl) := fun p => p.h.cell trivial (BL.cell 0)
          have q3 : ∀ p : Kept (fun _ => True) w8, p.v.cell? ⟨gn, 0, none⟩ = some (.slice Am nm cm) := fun p => p.h.cell trivial (BM.cell 0)
          iterate 5 (refine mix_calmDk rfl rfl ?_; go_big_quiet_step (fail); refine wpQuiet_nil ?_)
          refine mix_loudDk rfl (by kernel_rfl) rfl ?_
          intro K1 hK1
          have HK := Lib.hid hK1
          clear hK1 
          go_wp2_with fail
          refine (spans_Join Ax Ay nx ny cx cy x y w8 HXR.out HYR.out HNX.out HNY.out (by omega) (by omega)).mono ?_
          rintro x u17 ⟨v, rfl, o1, b⟩
          replace HXR := Lib.hid (HXR.out.below b)
          replace HYR := Lib.hid (HYR.out.below b)
          replace HLR := Lib.hid (HLR.out.below b)
          replace HMR := Lib.hid (HMR.out.below b)
          replace BX := BX.below b BX.lt
          replace BY := BY.below b BY.lt
          replace BL := BL.below b BL.lt
          replace BM := BM.below b BM.lt
          replace hBw := hBw.trans (b.mono hBw.size)
          replace q0 : ∀ p : Kept (fun _ => True) u17, p.v.cell? ⟨w2.heap.size, 0, none⟩ = some (.slice Ax nx cx) := fun p => p.h.cell trivial (BX.cell 0)
          replace q1 : ∀ p : Kept (fun _ => True) u17, p.v.cell? ⟨w2.heap.size + 1, 0, none⟩ = some (.slice Ay ny cy) := fun p => p.h.cell trivial (BY.cell 0)
          replace q2 : ∀ p : Kept (fun _ => True) u17, p.v.cell? ⟨gm, 0, none⟩ = some (.slice Al nl cl) := fun p => p.h.cell trivial (BL.cell 0)
          replace q3 : ∀ p : Kept (fun _ => True) u17, p.v.cell? ⟨gn, 0, none⟩ = some (.slice Am nm cm) := fun p => p.h.cell trivial (BM.cell 0)
          rw [HJO.out] at o1
          obtain ⟨Ag, cg, rfl, hAg, hrAg⟩ := o1.named nj HNJ.out
          have HG1 := Lib.hid hrAg
          clear o1 hrAg
          go_wp2_with fail
          refine HK.out _ _ (Stand.of_below b) ?_
          clear HK
          clear b
          refine mix_loudDk rfl (by kernel_rfl) rfl ?_
          intro K1 hK1
          have HK := Lib.hid hK1
          clear hK1 
          go_wp2_with fail
          refine (set_Has Ag nj cg jo key u17 HG1.out HNJ.out HCJ.out (by omega)).mono ?_
          rintro x u18 ⟨rfl, b⟩
          replace HXR := Lib.hid (HXR.out.below b)
          replace HYR := Lib.hid (HYR.out.below b)
          replace HLR := Lib.hid (HLR.out.below b)
          replace HMR := Lib.hid (HMR.out.below b)
          replace HG1 := Lib.hid (HG1.out.below b)
          replace BX := BX.below b BX.lt
          replace BY := BY.below b BY.lt
          replace BL := BL.below b BL.lt
          replace BM := BM.below b BM.lt
          replace hBw := hBw.trans (b.mono hBw.size)
          replace q0 : ∀ p : Kept (fun _ => True) u18, p.v.cell? ⟨w2.heap.size, 0, none⟩ = some (.slice Ax nx cx) := fun p => p.h.cell trivial (BX.cell 0)
          replace q1 : ∀ p : Kept (fun _ => True) u18, p.v.cell? ⟨w2.heap.size + 1, 0, none⟩ = some (.slice Ay ny cy) := fun p => p.h.cell trivial (BY.cell 0)
          replace q2 : ∀ p : Kept (fun _ => True) u18, p.v.cell? ⟨gm, 0, none⟩ = some (.slice Al nl cl) := fun p => p.h.cell trivial (BL.cell 0)
          replace q3 : ∀ p : Kept (fun _ => True) u18, p.v.cell? ⟨gn, 0, none⟩ = some (.slice Am nm cm) := fun p => p.h.cell trivial (BM.cell 0)
          rw [HQJ.out]
          go_wp2_with fail
          refine HK.out _ _ (Stand.of_below b) ?_
          clear HK
          clear b
          refine mix_loudDk rfl (by kernel_rfl) rfl ?_
          intro K1 hK1
          have HK := Lib.hid hK1
          clear hK1 
          go_wp2_with fail
          refine (set_Has Ax nx cx x key u18 HXR.out HNX.out HCX.out (by omega)).mono ?_
          rintro x u19 ⟨rfl, b⟩
          replace HXR := Lib.hid (HXR.out.below b)
          replace HYR := Lib.hid (HYR.out.below b)
          replace HLR := Lib.hid (HLR.out.below b)
          replace HMR := Lib.hid (HMR.out.below b)
          replace HG1 := Lib.hid (HG1.out.below b)
          replace BX := BX.below b BX.lt
          replace BY := BY.below b BY.lt
          replace BL := BL.below b BL.lt
          replace BM := BM.below b BM.lt
          replace hBw := hBw.trans (b.mono hBw.size)
          replace q0 : ∀ p : Kept (fun _ => True) u19, p.v.cell? ⟨w2.heap.size, 0, none⟩ = some (.slice Ax nx cx) := fun p => p.h.cell trivial (BX.cell 0)
          replace q1 : ∀ p : Kept (fun _ => True) u19, p.v.cell? ⟨w2.heap.size + 1, 0, none⟩ = some (.slice Ay ny cy) := fun p => p.h.cell trivial (BY.cell 0)
          replace q2 : ∀ p : Kept (fun _ => True) u19, p.v.cell? ⟨gm, 0, none⟩ = some (.slice Al nl cl) := fun p => p.h.cell trivial (BL.cell 0)
          replace q3 : ∀ p : Kept (fun _ => True) u19, p.v.cell? ⟨gn, 0, none⟩ = some (.slice Am nm cm) := fun p => p.h.cell trivial (BM.cell 0)
          rw [HQX.out]
          go_wp2_with fail
          refine HK.out _ _ (Stand.of_below b) ?_
          clear HK
          clear b
          iterate 3 (refine mix_calmDk rfl rfl ?_; go_big_quiet_step (fail); refine wpQuiet_nil ?_)
          refine mix_loudDk rfl (by kernel_rfl) rfl ?_
          intro K1 hK1
          have HK := Lib.hid hK1
          clear hK1 
          go_wp2_with fail
          refine (set_Has Ay ny cy y key u19 HYR.out HNY.out HCY.out (by omega)).mono ?_
          rintro x u20 ⟨rfl, b⟩
          replace HXR := Lib.hid (HXR.out.below b)
          replace HYR := Lib.hid (HYR.out.below b)
          replace HLR := Lib.hid (HLR.out.below b)
          replace HMR := Lib.hid (HMR.out.below b)
          replace HG1 := Lib.hid (HG1.out.below b)
          replace BX := BX.below b BX.lt
          replace BY := BY.below b BY.lt
          replace BL := BL.below b BL.lt
          replace BM := BM.below b BM.lt
          replace hBw := hBw.trans (b.mono hBw.size)
          replace q0 : ∀ p : Kept (fun _ => True) u20, p.v.cell? ⟨w2.heap.size, 0, none⟩ = some (.slice Ax nx cx) := fun p => p.h.cell trivial (BX.cell 0)
          replace q1 : ∀ p : Kept (fun _ => True) u20, p.v.cell? ⟨w2.heap.size + 1, 0, none⟩ = some (.slice Ay ny cy) := fun p => p.h.cell trivial (BY.cell 0)
          replace q2 : ∀ p : Kept (fun _ => True) u20, p.v.cell? ⟨gm, 0, none⟩ = some (.slice Al nl cl) := fun p => p.h.cell trivial (BL.cell 0)
          replace q3 : ∀ p : Kept (fun _ => True) u20, p.v.cell? ⟨gn, 0, none⟩ = some (.slice Am nm cm) := fun p => p.h.cell trivial (BM.cell 0)
          rw [HQY.out]
          go_wp2_with fail
          refine HK.out _ _ (Stand.of_below b) ?_
          clear HK
          clear b
          iterate 3 (refine mix_calmDk rfl rfl ?_; go_big_quiet_step (fail); refine wpQuiet_nil ?_)
          iterate 4 (refine mix_calmDk rfl rfl ?_; go_big_quiet_step (fail); refine wpQuiet_nil ?_)
          refine mix_loudDk rfl (by kernel_rfl) rfl ?_
          intro K1 hK1
          have HK := Lib.hid hK1
          clear hK1 
          go_wp2_with fail
          refine (set_Has Am nm cm me key u20 HMR.out HNM.out HCM.out (by omega)).mono ?_
          rintro x u21 ⟨rfl, b⟩
          replace HXR := Lib.hid (HXR.out.below b)
          replace HYR := Lib.hid (HYR.out.below b)
          replace HLR := Lib.hid (HLR.out.below b)
          replace HMR := Lib.hid (HMR.out.below b)
          replace HG1 := Lib.hid (HG1.out.below b)
          replace BX := BX.below b BX.lt
          replace BY := BY.below b BY.lt
          replace BL := BL.below b BL.lt
          replace BM := BM.below b BM.lt
          replace hBw := hBw.trans (b.mono hBw.size)
          replace q0 : ∀ p : Kept (fun _ => True) u21, p.v.cell? ⟨w2.heap.size, 0, none⟩ = some (.slice Ax nx cx) := fun p => p.h.cell trivial (BX.cell 0)
          replace q1 : ∀ p : Kept (fun _ => True) u21, p.v.cell? ⟨w2.heap.size + 1, 0, none⟩ = some (.slice Ay ny cy) := fun p => p.h.cell trivial (BY.cell 0)
          replace q2 : ∀ p : Kept (fun _ => True) u21, p.v.cell? ⟨gm, 0, none⟩ = some (.slice Al nl cl) := fun p => p.h.cell trivial (BL.cell 0)
          replace q3 : ∀ p : Kept (fun _ => True) u21, p.v.cell? ⟨gn, 0, none⟩ = some (.slice Am nm cm) := fun p => p.h.cell trivial (BM.cell 0)
          rw [HQM.out]
          go_wp2_with fail
          refine HK.out _ _ (Stand.of_below b) ?_
          clear HK
          clear b
          refine mix_loudDk rfl (by kernel_rfl) rfl ?_
          intro K1 hK1
          have HK := Lib.hid hK1
          clear hK1 
          go_wp2_with fail
          refine (set_Has Ax nx cx x key u21 HXR.out HNX.out HCX.out (by omega)).mono ?_
          rintro x u22 ⟨rfl, b⟩
          replace HXR := Lib.hid (HXR.out.below b)
          replace HYR := Lib.hid (HYR.out.below b)
          replace HLR := Lib.hid (HLR.out.below b)
          replace HMR := Lib.hid (HMR.out.below b)
          replace HG1 := Lib.hid (HG1.out.below b)
          replace BX := BX.below b BX.lt
          replace BY := BY.below b BY.lt
          replace BL := BL.below b BL.lt
          replace BM := BM.below b BM.lt
          replace hBw := hBw.trans (b.mono hBw.size)
          replace q0 : ∀ p : Kept (fun _ => True) u22, p.v.cell? ⟨w2.heap.size, 0, none⟩ = some (.slice Ax nx cx) := fun p => p.h.cell trivial (BX.cell 0)
          replace q1 : ∀ p : Kept (fun _ => True) u22, p.v.cell? ⟨w2.heap.size + 1, 0, none⟩ = some (.slice Ay ny cy) := fun p => p.h.cell trivial (BY.cell 0)
          replace q2 : ∀ p : Kept (fun _ => True) u22, p.v.cell? ⟨gm, 0, none⟩ = some (.slice Al nl cl) := fun p => p.h.cell trivial (BL.cell 0)
          replace q3 : ∀ p : Kept (fun _ => True) u22, p.v.cell? ⟨gn, 0, none⟩ = some (.slice Am nm cm) := fun p => p.h.cell trivial (BM.cell 0)
          rw [HQX.out]
          go_wp2_with fail
          refine HK.out _ _ (Stand.of_below b) ?_
          clear HK
          clear b
          iterate 3 (refine mix_calmDk rfl rfl ?_; go_big_quiet_step (fail); refine wpQuiet_nil ?_)
          refine mix_loudDk rfl (by kernel_rfl) rfl ?_
          intro K1 hK1
          have HK := Lib.hid hK1
          clear hK1
          go_wp2_with fail
          refine HK.out _ _ (Stand.refl _ _) ?_
          clear HK
          iterate 4 (refine mix_calmDk rfl rfl ?_; go_big_quiet_step (fail); refine wpQuiet_nil ?_)
          iterate 4 (refine mix_calmDk rfl rfl ?_; go_big_quiet_step (fail); refine wpQuiet_nil ?_)
          refine mix_loudDk rfl (by kernel_rfl) rfl ?_
          intro K1 hK1
          have HK := Lib.hid hK1
          clear hK1 
          go_wp2_with fail
          refine (set_Has Al nl cl le key u22 HLR.out HNL.out HCL.out (by omega)).mono ?_
          rintro x u23 ⟨rfl, b⟩
          replace HXR := Lib.hid (HXR.out.below b)
          replace HYR := Lib.hid (HYR.out.below b)
          replace HLR := Lib.hid (HLR.out.below b)
          replace HMR := Lib.hid (HMR.out.below b)
          replace HG1 := Lib.hid (HG1.out.below b)
          replace BX := BX.below b BX.lt
          replace BY := BY.below b BY.lt
          replace BL := BL.below b BL.lt
          replace BM := BM.below b BM.lt
          replace hBw := hBw.trans (b.mono hBw.size)
          replace q0 : ∀ p : Kept (fun _ => True) u23, p.v.cell? ⟨w2.heap.size, 0, none⟩ = some (.slice Ax nx cx) := fun p => p.h.cell trivial (BX.cell 0)
          replace q1 : ∀ p : Kept (fun _ => True) u23, p.v.cell? ⟨w2.heap.size + 1, 0, none⟩ = some (.slice Ay ny cy) := fun p => p.h.cell trivial (BY.cell 0)
          replace q2 : ∀ p : Kept (fun _ => True) u23, p.v.cell? ⟨gm, 0, none⟩ = some (.slice Al nl cl) := fun p => p.h.cell trivial (BL.cell 0)
          replace q3 : ∀ p : Kept (fun _ => True) u23, p.v.cell? ⟨gn, 0, none⟩ = some (.slice Am nm cm) := fun p => p.h.cell trivial (BM.cell 0)
          rw [HQL.out]
          go_wp2_with fail
          refine HK.out _ _ (Stand.of_below b) ?_
          clear HK
          clear b
          refine mix_loudDk rfl (by kernel_rfl) rfl ?_
          intro K1 hK1
          have HK := Lib.hid hK1
          clear hK1 
          go_wp2_with fail
          refine (set_Has Ax nx cx x key u23 HXR.out HNX.out HCX.out (by omega)).mono ?_
          rintro x u24 ⟨rfl, b⟩
          replace HXR := Lib.hid (HXR.out.below b)
          replace HYR := Lib.hid (HYR.out.below b)
          replace HLR := Lib.hid (HLR.out.below b)
          replace HMR := Lib.hid (HMR.out.below b)
          replace HG1 := Lib.hid (HG1.out.below b)
          replace BX := BX.below b BX.lt
          replace BY := BY.below b BY.lt
          replace BL := BL.below b BL.lt
          replace BM := BM.below b BM.lt
          replace hBw := hBw.trans (b.mono hBw.size)
          replace q0 : ∀ p : Kept (fun _ => True) u24, p.v.cell? ⟨w2.heap.size, 0, none⟩ = some (.slice Ax nx cx) := fun p => p.h.cell trivial (BX.cell 0)
          replace q1 : ∀ p : Kept (fun _ => True) u24, p.v.cell? ⟨w2.heap.size + 1, 0, none⟩ = some (.slice Ay ny cy) := fun p => p.h.cell trivial (BY.cell 0)
          replace q2 : ∀ p : Kept (fun _ => True) u24, p.v.cell? ⟨gm, 0, none⟩ = some (.slice Al nl cl) := fun p => p.h.cell trivial (BL.cell 0)
          replace q3 : ∀ p : Kept (fun _ => True) u24, p.v.cell? ⟨gn, 0, none⟩ = some (.slice Am nm cm) := fun p => p.h.cell trivial (BM.cell 0)
          rw [HQX.out]
          go_wp2_with fail
          refine HK.out _ _ (Stand.of_below b) ?_
          clear HK
          clear b
          iterate 3 (refine mix_calmDk rfl rfl ?_; go_big_quiet_step (fail); refine wpQuiet_nil ?_)
          refine mix_loudDk rfl (by kernel_rfl) rfl ?_
          intro K1 hK1
          have HK := Lib.hid hK1
          clear hK1
          go_wp2_with fail
          refine HK.out _ _ (Stand.refl _ _) ?_
          clear HK
          iterate 5 (refine mix_calmDk rfl rfl ?_; go_big_quiet_step (fail); refine wpQuiet_nil ?_)
          refine mix_loudDk rfl (by kernel_rfl) rfl ?_
          intro K1 hK1
          have HK := Lib.hid hK1
          clear hK1 
          go_wp2_with fail
          refine (law46_alive u24).mono ?_
          rintro x u25 ⟨rfl, b⟩
          replace HXR := Lib.hid (HXR.out.below b)
          replace HYR := Lib.hid (HYR.out.below b)
          replace HLR := Lib.hid (HLR.out.below b)
          replace HMR := Lib.hid (HMR.out.below b)
          replace HG1 := Lib.hid (HG1.out.below b)
          replace BX := BX.below b BX.lt
          replace BY := BY.below b BY.lt
          replace BL := BL.below b BL.lt
          replace BM := BM.below b BM.lt
          replace hBw := hBw.trans (b.mono hBw.size)
          replace q0 : ∀ p : Kept (fun _ => True) u25, p.v.cell? ⟨w2.heap.size, 0, none⟩ = some (.slice Ax nx cx) := fun p => p.h.cell trivial (BX.cell 0)
          replace q1 : ∀ p : Kept (fun _ => True) u25, p.v.cell? ⟨w2.heap.size + 1, 0, none⟩ = some (.slice Ay ny cy) := fun p => p.h.cell trivial (BY.cell 0)
          replace q2 : ∀ p : Kept (fun _ => True) u25, p.v.cell? ⟨gm, 0, none⟩ = some (.slice Al nl cl) := fun p => p.h.cell trivial (BL.cell 0)
          replace q3 : ∀ p : Kept (fun _ => True) u25, p.v.cell? ⟨gn, 0, none⟩ = some (.slice Am nm cm) := fun p => p.h.cell trivial (BM.cell 0)
          go_wp2_with fail
          refine HK.out _ _ (Stand.of_below b) ?_
          clear HK
          clear b
          iterate 2 (refine mix_calmDk rfl rfl ?_; go_big_quiet_step (fail); refine wpQuiet_nil ?_)
          refine mix_endDk ?_
          go_wp2_with fail
          go_ret
          exact ⟨rfl, hBw⟩
    · have hm1 : m > 30 := by omega
      go_enter Try.func8, Try.ntmps8
      go_wp2_with fail
      go_ret
      exact ⟨rfl, Below.refl _ _⟩
  · have hn1 : n > 30 := by omega
    go_enter Try.func8, Try.ntmps8
    go_wp2_with fail
    go_ret
    exact ⟨rfl, Below.refl _ _⟩
theorem spans_laws_row (w : World) (A : Option Addr) (n c : Nat) (l : List Sp) (h1 : n ≤ c) (h2 : c ≤ maxLen) (hA : A = none → c = 0) (hl : l.length = n) (hr : RdP w A l)
    (B : Option Addr) (m d : Nat) (k : List Sp) (h3 : m ≤ d) (h4 : d ≤ maxLen) (hB : B = none → d = 0) (hk : k.length = m) (hs : RdP w B k) (key : ByteArray) (_ : key.size ≤ maxLen) :
    Calls Try.prog 8 #[.slice A n c, .slice B m d, .string key] w fun e w' => e = .returned (.bool true) ∧ Below w.heap.size w w' :=
  spans_laws_walk A B n m c d l k key w hr hs hl hk hA hB (by unfold maxLen at h2; omega) (by unfold maxLen at h4; omega)
end Go.Proofs.Ytomefcngaclehaa
