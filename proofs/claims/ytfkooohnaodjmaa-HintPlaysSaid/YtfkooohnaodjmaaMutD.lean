/- Contract of the reference's Compare of mutations. -/
import Derived.Test.YtfkooohnaodjmaaMutC
import Derived.Test.YtfkooohnaodjmaaMixA
import Derived.Test.YtfkooohnaodjmaaStampC
namespace Go.Proofs.Ytfkooohnaodjmaa
open Go.RowKit Go.Sort

theorem run_alloc8 (ρ : Operand → Value) (w : World) (o : Oper) (ho : o.op = .alloc 71) : (execOp ρ o).run Try.prog w = .ok (.value (.pointer (some ⟨w.heap.size, 0, none⟩))) (w.alloc (.cells #[.int .i64 0, .int .i64 0, .int .i64 0, .int .i64 0, .int .i64 0, .int .i64 0, .int .i64 0, .int .i64 0] 71)) := by
  unfold execOp
  simp only [ho]
  simp [go_sem, Instr.alloc]
theorem freeA_of8 {P : Program} {ops : Array Oper} {X : List Nat} {z : Array Value} {t : TypeId} (h : ∀ x ∈ X, ∃ o, ops[x]? = some o ∧ o.guard = none ∧ o.op = .alloc t) (hz : ∀ (ρ : Operand → Value) (w : World) (o : Oper), o.op = .alloc t → (execOp ρ o).run P w = .ok (.value (.pointer (some ⟨w.heap.size, 0, none⟩))) (w.alloc (.cells z t))) : FreeA P ops X (fun _ => z) (fun _ => t) :=
  fun x hx => by
    obtain ⟨o, h1, h2, h3⟩ := h x hx
    exact ⟨o, h1, h2, fun ρ w => hz ρ w o h3⟩
theorem stand_below8 {w w' : World} (h : Stand allS w w') : Below w.heap.size w w' := ⟨h.os, h.tape, h.output, h.size, fun k hk => h.block k hk trivial⟩
theorem blk_ints8 {w : World} {g : Nat} {t : TypeId} (a0 a1 a2 a3 a4 a5 a6 a7 : Int) (h : Blk w g t #[.int .i64 0, .int .i64 0, .int .i64 0, .int .i64 0, .int .i64 0, .int .i64 0, .int .i64 0, .int .i64 0]) :
    Blk (((((((((w.setCell ⟨g, 0, none⟩ (.int .i64 a0)).setCell ⟨g, 1, none⟩ (.int .i64 a1)).setCell ⟨g, 2, none⟩ (.int .i64 a2)).setCell ⟨g, 3, none⟩ (.int .i64 a3)).setCell ⟨g, 4, none⟩ (.int .i64 a4)).setCell ⟨g, 5, none⟩ (.int .i64 a5)).setCell ⟨g, 6, none⟩ (.int .i64 a6)).setCell ⟨g, 7, none⟩ (.int .i64 a7))) g t (([a0, a1, a2, a3, a4, a5, a6, a7] : List Int).map (Value.int .i64)).toArray := by
  have := ((((((((h.set_ 0 (.int .i64 a0)).set_ 1 (.int .i64 a1)).set_ 2 (.int .i64 a2)).set_ 3 (.int .i64 a3)).set_ 4 (.int .i64 a4)).set_ 5 (.int .i64 a5)).set_ 6 (.int .i64 a6)).set_ 7 (.int .i64 a7))
  simpa using this
theorem below_ints8 {N : Nat} {a w : World} {g : Nat} (hg : N ≤ g) (x0 x1 x2 x3 x4 x5 x6 x7 : Value) (h : Below N a w) :
    Below N a (((((((((w.setCell ⟨g, 0, none⟩ x0).setCell ⟨g, 1, none⟩ x1).setCell ⟨g, 2, none⟩ x2).setCell ⟨g, 3, none⟩ x3).setCell ⟨g, 4, none⟩ x4).setCell ⟨g, 5, none⟩ x5).setCell ⟨g, 6, none⟩ x6).setCell ⟨g, 7, none⟩ x7)) :=
  (((((((h.setCell (p := ⟨g, 0, none⟩) hg x0).setCell (p := ⟨g, 1, none⟩) hg x1).setCell (p := ⟨g, 2, none⟩) hg x2).setCell (p := ⟨g, 3, none⟩) hg x3).setCell (p := ⟨g, 4, none⟩) hg x4).setCell (p := ⟨g, 5, none⟩) hg x5).setCell (p := ⟨g, 6, none⟩) hg x6).setCell (p := ⟨g, 7, none⟩) hg x7

set_option maxRecDepth 100000 in
set_option maxHeartbeats 4000000 in
theorem ref07_Compare (m1 m2 : Mut) (A1 A2 : Option Addr) (n1 c1 n2 c2 : Nat) (w : World) (hr1 : Reads w w.heap.size 3 A1 n1 (m1.ov.flatMap sc)) (hr2 : Reads w w.heap.size 3 A2 n2 (m2.ov.flatMap sc)) (hn1 : n1 ≤ 1000000000) :
    Calls Try.prog 11 #[.agg (mutC m1 (.slice A1 n1 c1)), .agg (mutC m2 (.slice A2 n2 c2))] w fun e w' => e = .returned (.int .i64 (cmpM m1 m2)) ∧ Below w.heap.size w w' := by
  have BK1 := (Blk.new w 33 (mutC m1 (.slice A1 n1 c1))).alloc (.cells (mutC m2 (.slice A2 n2 c2)) 33)
  have BK2 := Blk.new (w.alloc (.cells (mutC m1 (.slice A1 n1 c1)) 33)) 33 (mutC m2 (.slice A2 n2 c2))
  have hB : Below w.heap.size w ((w.alloc (.cells (mutC m1 (.slice A1 n1 c1)) 33)).alloc (.cells (mutC m2 (.slice A2 n2 c2)) 33)) := ((Below.refl _ _).alloc (Nat.le_refl _) _).alloc (by simp) _
  have HR1 := Lib.hid (((hr1.alloc (Nat.le_refl _) (.cells (mutC m1 (.slice A1 n1 c1)) 33)).alloc (by simp) (.cells (mutC m2 (.slice A2 n2 c2)) 33)).more hB.size)
  have HR2 := Lib.hid (((hr2.alloc (Nat.le_refl _) (.cells (mutC m1 (.slice A1 n1 c1)) 33)).alloc (by simp) (.cells (mutC m2 (.slice A2 n2 c2)) 33)).more hB.size)
  simp only [World.size_alloc] at BK2
  clear hr1 hr2
  go_enter Try.func11, Try.ntmps11
  go_upto_region 1 with fail
  generalize ((w.alloc (.cells (mutC m1 (.slice A1 n1 c1)) 33)).alloc (.cells (mutC m2 (.slice A2 n2 c2)) 33)) = W at *
  have q0 : ∀ p : Kept allS W.drew, p.v.cell? ⟨w.heap.size, 0, none⟩ = some (.int .i64 m1.tab) := fun p => p.h.cell trivial (BK1.drew.cell 0)
  have q1 : ∀ p : Kept allS W.drew, p.v.cell? ⟨w.heap.size, 1, none⟩ = some (.int .i64 m1.kind) := fun p => p.h.cell trivial (BK1.drew.cell 1)
  have q2 : ∀ p : Kept allS W.drew, p.v.cell? ⟨w.heap.size, 2, none⟩ = some (.string m1.key) := fun p => p.h.cell trivial (BK1.drew.cell 2)
  have q3 : ∀ p : Kept allS W.drew, p.v.cell? ⟨w.heap.size, 3, none⟩ = some (.string m1.en) := fun p => p.h.cell trivial (BK1.drew.cell 3)
  have q4 : ∀ p : Kept allS W.drew, p.v.cell? ⟨w.heap.size, 4, none⟩ = some (.string m1.val) := fun p => p.h.cell trivial (BK1.drew.cell 4)
  have q5 : ∀ p : Kept allS W.drew, p.v.cell? ⟨w.heap.size, 5, none⟩ = some (.int .i64 m1.exp) := fun p => p.h.cell trivial (BK1.drew.cell 5)
  have q6 : ∀ p : Kept allS W.drew, p.v.cell? ⟨w.heap.size, 6, none⟩ = some (.int .i64 m1.at_.1) := fun p => p.h.cell trivial (BK1.drew.cell 6)
  have q7 : ∀ p : Kept allS W.drew, p.v.cell? ⟨w.heap.size, 7, none⟩ = some (.int .i64 m1.at_.2.1) := fun p => p.h.cell trivial (BK1.drew.cell 7)
  have q8 : ∀ p : Kept allS W.drew, p.v.cell? ⟨w.heap.size, 8, none⟩ = some (.int .i64 m1.at_.2.2) := fun p => p.h.cell trivial (BK1.drew.cell 8)
  have q9 : ∀ p : Kept allS W.drew, p.v.cell? ⟨w.heap.size, 9, none⟩ = some (.slice A1 n1 c1) := fun p => p.h.cell trivial (BK1.drew.cell 9)
  have t0 : ∀ p : Kept allS W.drew, p.v.cell? ⟨w.heap.size + 1, 0, none⟩ = some (.int .i64 m2.tab) := fun p => p.h.cell trivial (BK2.drew.cell 0)
  have t1 : ∀ p : Kept allS W.drew, p.v.cell? ⟨w.heap.size + 1, 1, none⟩ = some (.int .i64 m2.kind) := fun p => p.h.cell trivial (BK2.drew.cell 1)
  have t2 : ∀ p : Kept allS W.drew, p.v.cell? ⟨w.heap.size + 1, 2, none⟩ = some (.string m2.key) := fun p => p.h.cell trivial (BK2.drew.cell 2)
  have t3 : ∀ p : Kept allS W.drew, p.v.cell? ⟨w.heap.size + 1, 3, none⟩ = some (.string m2.en) := fun p => p.h.cell trivial (BK2.drew.cell 3)
  have t4 : ∀ p : Kept allS W.drew, p.v.cell? ⟨w.heap.size + 1, 4, none⟩ = some (.string m2.val) := fun p => p.h.cell trivial (BK2.drew.cell 4)
  have t5 : ∀ p : Kept allS W.drew, p.v.cell? ⟨w.heap.size + 1, 5, none⟩ = some (.int .i64 m2.exp) := fun p => p.h.cell trivial (BK2.drew.cell 5)
  have t6 : ∀ p : Kept allS W.drew, p.v.cell? ⟨w.heap.size + 1, 6, none⟩ = some (.int .i64 m2.at_.1) := fun p => p.h.cell trivial (BK2.drew.cell 6)
  have t7 : ∀ p : Kept allS W.drew, p.v.cell? ⟨w.heap.size + 1, 7, none⟩ = some (.int .i64 m2.at_.2.1) := fun p => p.h.cell trivial (BK2.drew.cell 7)
  have t8 : ∀ p : Kept allS W.drew, p.v.cell? ⟨w.heap.size + 1, 8, none⟩ = some (.int .i64 m2.at_.2.2) := fun p => p.h.cell trivial (BK2.drew.cell 8)
  have t9 : ∀ p : Kept allS W.drew, p.v.cell? ⟨w.heap.size + 1, 9, none⟩ = some (.slice A2 n2 c2) := fun p => p.h.cell trivial (BK2.drew.cell 9)
  obtain ⟨R1, h1⟩ : ∃ r, cmp3 m1.at_ m2.at_ = r := ⟨_, rfl⟩
  obtain ⟨R2, h2⟩ : ∃ r, cmpI m1.tab m2.tab = r := ⟨_, rfl⟩
  obtain ⟨R3, h3⟩ : ∃ r, cmpI m1.kind m2.kind = r := ⟨_, rfl⟩
  obtain ⟨R4, h4⟩ : ∃ r, cmpT m1.key m2.key = r := ⟨_, rfl⟩
  obtain ⟨R5, h5⟩ : ∃ r, cmpT m1.en m2.en = r := ⟨_, rfl⟩
  obtain ⟨R6, h6⟩ : ∃ r, cmpT m1.val m2.val = r := ⟨_, rfl⟩
  obtain ⟨R7, h7⟩ : ∃ r, cmpI m1.exp m2.exp = r := ⟨_, rfl⟩
  obtain ⟨R8, h8⟩ : ∃ r, cmpR m1.ov m2.ov = r := ⟨_, rfl⟩
  have HM : Hid (cmpM m1 m2 = orL [R1, R2, R3, R4, R5, R6, R7, R8]) := Lib.hid (by unfold cmpM; rw [h1, h2, h3, h4, h5, h6, h7, h8])
  have hc1 : ∀ w, Calls Try.prog 30 #[.agg #[.int .i64 m1.at_.1, .int .i64 m1.at_.2.1, .int .i64 m1.at_.2.2], .agg #[.int .i64 m2.at_.1, .int .i64 m2.at_.2.1, .int .i64 m2.at_.2.2]] w fun e w' => e = .returned (.int .i64 R1) ∧ Below w.heap.size w w' := fun w => h1 ▸ ref04_Compare _ _ _ _ _ _ w
  have hc2 := fun w => ref07_number m1.tab m2.tab w
  have hc3 := fun w => ref07_number m1.kind m2.kind w
  have hc4 := fun w => ref07_Text m1.key m2.key w
  have hc5 := fun w => ref07_Text m1.en m2.en w
  have hc6 := fun w => ref07_Text m1.val m2.val w
  have hc7 := fun w => ref07_number m1.exp m2.exp w
  have hc8 := fun w r1 r2 => ref07_rows A1 A2 n1 c1 n2 c2 m1.ov m2.ov w r1 r2 hn1
  rw [h2] at hc2
  rw [h3] at hc3
  rw [h4] at hc4
  rw [h5] at hc5
  rw [h6] at hc6
  rw [h7] at hc7
  rw [h8] at hc8
  have C1 := Lib.hid hc1
  have C2 := Lib.hid hc2
  have C3 := Lib.hid hc3
  have C4 := Lib.hid hc4
  have C5 := Lib.hid hc5
  have C6 := Lib.hid hc6
  have C7 := Lib.hid hc7
  have C8 := Lib.hid hc8
  clear h1 h2 h3 h4 h5 h6 h7 h8 hc1 hc2 hc3 hc4 hc5 hc6 hc7 hc8
  refine wp_region_mixA [41] (fun _ => #[.int .i64 0, .int .i64 0, .int .i64 0, .int .i64 0, .int .i64 0, .int .i64 0, .int .i64 0, .int .i64 0]) (fun _ => 71) 42 [0, 1, 2, 3, 5, 6, 7, 8, 10, 11, 12, 13, 15, 16, 17, 18, 20, 21, 22, 23, 25, 26, 27, 28, 30, 31, 32, 33, 35, 36, 37, 38, 4, 9, 14, 19, 24, 29, 34, 39, 40] (by kernel_rfl) (by kernel_rfl) (freeA_of8 (fun x hx => by simp only [List.mem_cons, List.mem_nil_iff, or_false] at hx; subst hx; exact ⟨_, rfl, rfl, rfl⟩) run_alloc8) ?_
  iterate 32 (refine mix_calmC rfl rfl ?_; go_big_quiet_step (fail); refine wpQuiet_nil ?_)
  clear q0 q1 q2 q3 q4 q5 q6 q7 q8 q9 t0 t1 t2 t3 t4 t5 t6 t7 t8 t9
  have HT := Lib.hid (Stand.refl allS W.drew)
  refine mix_loudC rfl (by kernel_rfl) ?_
  intro w1 hS_w1 K1 hK1
  have HK := Lib.hid hK1
  clear hK1 
  replace HT := Lib.hid (HT.out.trans hS_w1)
  clear hS_w1
  go_wp2_with fail
  refine (C1.out w1).mono ?_
  rintro x w2 ⟨rfl, b1⟩
  replace HT := Lib.hid (HT.out.trans (Stand.of_below b1))
  have HB1 := Lib.hid b1
  clear b1 C1
  go_wp2_with fail
  refine HK.out _ _ (Stand.of_below HB1.out) ?_
  clear HK
  refine mix_loudC rfl (by kernel_rfl) ?_
  intro w3 hS_w3 K1 hK1
  have HK := Lib.hid hK1
  clear hK1 
  replace HT := Lib.hid (HT.out.trans hS_w3)
  clear hS_w3
  go_wp2_with fail
  refine (C2.out w3).mono ?_
  rintro x wx ⟨rfl, rfl⟩
  clear C2
  go_wp2_with fail
  refine HK.out _ _ (Stand.refl _ _) ?_
  clear HK
  refine mix_loudC rfl (by kernel_rfl) ?_
  intro w4 hS_w4 K1 hK1
  have HK := Lib.hid hK1
  clear hK1 
  replace HT := Lib.hid (HT.out.trans hS_w4)
  clear hS_w4
  go_wp2_with fail
  refine (C3.out w4).mono ?_
  rintro x wx ⟨rfl, rfl⟩
  clear C3
  go_wp2_with fail
  refine HK.out _ _ (Stand.refl _ _) ?_
  clear HK
  refine mix_loudC rfl (by kernel_rfl) ?_
  intro w5 hS_w5 K1 hK1
  have HK := Lib.hid hK1
  clear hK1 
  replace HT := Lib.hid (HT.out.trans hS_w5)
  clear hS_w5
  go_wp2_with fail
  refine (C4.out w5).mono ?_
  rintro x wx ⟨rfl, rfl⟩
  clear C4
  go_wp2_with fail
  refine HK.out _ _ (Stand.refl _ _) ?_
  clear HK
  refine mix_loudC rfl (by kernel_rfl) ?_
  intro w6 hS_w6 K1 hK1
  have HK := Lib.hid hK1
  clear hK1 
  replace HT := Lib.hid (HT.out.trans hS_w6)
  clear hS_w6
  go_wp2_with fail
  refine (C5.out w6).mono ?_
  rintro x wx ⟨rfl, rfl⟩
  clear C5
  go_wp2_with fail
  refine HK.out _ _ (Stand.refl _ _) ?_
  clear HK
  refine mix_loudC rfl (by kernel_rfl) ?_
  intro w7 hS_w7 K1 hK1
  have HK := Lib.hid hK1
  clear hK1 
  replace HT := Lib.hid (HT.out.trans hS_w7)
  clear hS_w7
  go_wp2_with fail
  refine (C6.out w7).mono ?_
  rintro x wx ⟨rfl, rfl⟩
  clear C6
  go_wp2_with fail
  refine HK.out _ _ (Stand.refl _ _) ?_
  clear HK
  refine mix_loudC rfl (by kernel_rfl) ?_
  intro w8 hS_w8 K1 hK1
  have HK := Lib.hid hK1
  clear hK1 
  replace HT := Lib.hid (HT.out.trans hS_w8)
  clear hS_w8
  go_wp2_with fail
  refine (C7.out w8).mono ?_
  rintro x wx ⟨rfl, rfl⟩
  clear C7
  go_wp2_with fail
  refine HK.out _ _ (Stand.refl _ _) ?_
  clear HK
  refine mix_loudC rfl (by kernel_rfl) ?_
  intro w9 hS_w9 K1 hK1
  have HK := Lib.hid hK1
  clear hK1 
  replace HT := Lib.hid (HT.out.trans hS_w9)
  clear hS_w9
  go_wp2_with fail
  refine (C8.out w9 (((HR1.out.drewN 1).below (stand_below8 HT.out)).more HT.out.size) (((HR2.out.drewN 1).below (stand_below8 HT.out)).more HT.out.size)).mono ?_
  rintro x wy ⟨rfl, b2⟩
  replace HT := Lib.hid (HT.out.trans (Stand.of_below b2))
  have HB2 := Lib.hid b2
  clear b2 C8
  go_wp2_with fail
  refine HK.out _ _ (Stand.of_below HB2.out) ?_
  clear HK
  iterate 1 (refine mix_calmC rfl rfl ?_; go_big_quiet_step (fail); refine wpQuiet_nil ?_)
  refine mix_endC ?_
  intro w5 hS5
  replace HT := Lib.hid (HT.out.trans hS5)
  clear hS5
  refine made_one (R := fun a' => wpList _ _ _ _ a' w5) (some 5) rfl ?_
  intro g bg hg
  have fg := bg.frozen
  have cg := bg.cell
  go_wp2_with fail
  have BL := blk_ints8 R1 R2 R3 R4 R5 R6 R7 R8 bg
  have hBe : Below w.heap.size w (((((((((w5.setCell ⟨g, 0, none⟩ (.int .i64 R1)).setCell ⟨g, 1, none⟩ (.int .i64 R2)).setCell ⟨g, 2, none⟩ (.int .i64 R3)).setCell ⟨g, 3, none⟩ (.int .i64 R4)).setCell ⟨g, 4, none⟩ (.int .i64 R5)).setCell ⟨g, 5, none⟩ (.int .i64 R6)).setCell ⟨g, 6, none⟩ (.int .i64 R7)).setCell ⟨g, 7, none⟩ (.int .i64 R8))) := below_ints8 (Nat.le_trans hB.size hg) _ _ _ _ _ _ _ _ ((below_drewN hB 1).trans ((stand_below8 HT.out).mono hB.size))
  generalize ((((((((w5.setCell ⟨g, 0, none⟩ (.int .i64 R1)).setCell ⟨g, 1, none⟩ (.int .i64 R2)).setCell ⟨g, 2, none⟩ (.int .i64 R3)).setCell ⟨g, 3, none⟩ (.int .i64 R4)).setCell ⟨g, 4, none⟩ (.int .i64 R5)).setCell ⟨g, 5, none⟩ (.int .i64 R6)).setCell ⟨g, 6, none⟩ (.int .i64 R7)).setCell ⟨g, 7, none⟩ (.int .i64 R8)) = W9 at *
  have hll : ([R1, R2, R3, R4, R5, R6, R7, R8] : List Int).length = 8 := rfl
  generalize ([R1, R2, R3, R4, R5, R6, R7, R8] : List Int) = l at *
  have HC := Lib.hid (ints_cell BL)
  have HL := Lib.hid hll
  have HR := Lib.hid HM.out.symm
  clear hll BL HM HT HR1 HR2 HB1 HB2 BK1 BK2 hB fg cg bg hg
  go_loop [6] (fun v6 => ∃ k : Nat, v6 = .int .i64 k ∧ k ≤ 8 ∧ orL (l.drop k) = cmpM m1 m2) (fun v6 => 8 - (RowKit.intOf v6).toNat)
  case atStart => exact ⟨0, rfl, Nat.zero_le _, by rw [List.drop_zero]; exact HR.out⟩
  case round =>
    obtain ⟨k, rfl, hk, hd⟩ := hrel
    have HD := Lib.hid hd
    clear hd
    by_cases hkn : k < 8
    · have hkl : k < l.length := by have := HL.out; omega
      obtain ⟨x, hx⟩ : ∃ x, l[k]'hkl = x := ⟨_, rfl⟩
      have q := HC.out k x (by rw [List.getElem?_eq_getElem hkl, hx])
      have hst := orL_drop l k hkl
      rw [hx] at hst
      have HST := Lib.hid hst
      clear hst hx
      by_cases h0 : x = 0
      · have hne : (x != 0) = false := by simp [h0]
        have HX : Hid (orL (l.drop (k + 1)) = cmpM m1 m2) := Lib.hid (by rw [← HD.out, HST.out, if_pos h0])
        clear h0
        go_wp2_with fail
        go_round
        case rel => exact ⟨k + 1, by go_num, by omega, HX.out⟩
        case measure => simp [RowKit.intOf]; omega
      · have hne : (x != 0) = true := by simp [h0]
        have HX : Hid (x = cmpM m1 m2) := Lib.hid (by rw [← HD.out, HST.out, if_neg h0])
        clear h0
        go_wp2_with fail
        go_ret
        exact ⟨by rw [← HX.out]; rfl, hBe⟩
    · have HX : Hid (0 = cmpM m1 m2) := Lib.hid (by rw [← HD.out, List.drop_of_length_le (by rw [HL.out]; omega)]; rfl)
      go_wp2_with fail
      go_ret
      exact ⟨by rw [← HX.out]; rfl, hBe⟩
end Go.Proofs.Ytfkooohnaodjmaa
