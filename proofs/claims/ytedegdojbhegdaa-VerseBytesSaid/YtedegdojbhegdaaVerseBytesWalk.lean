/- The walk of the law VerseBytes: it returns true, and nothing that was there ahead of the call has turned. -/
import Derived.Test.YtedegdojbhegdaaVerS
import Derived.Test.YtedegdojbhegdaaMixA
import Derived.Test.YtedegdojbhegdaaVerR
import Derived.Test.YtedegdojbhegdaaVerF
namespace Go.Proofs.Ytedegdojbhegdaa
open Go.RowKit Go.Sort

/-- What lies in the world all along. -/
structure VBs (w : World) (v1 v2 : Ver) (A1 A2 Am An : Option Addr) (n1 n2 c1 c2 cm cn g1 g2 gm gn : Nat) (W : World) : Prop where
  b1 : Blk W g1 26 (verC v1 (.slice A1 n1 c1))
  b2 : Blk W g2 26 (verC v2 (.slice A2 n2 c2))
  bm : Blk W gm 29 (verC v1 (.slice Am v1.tabs.length cm))
  bn : Blk W gn 29 (verC v2 (.slice An v2.tabs.length cn))
  r1 : Reads W W.heap.size 2 A1 n1 (v1.tabs.flatMap tc)
  r2 : Reads W W.heap.size 2 A2 n2 (v2.tabs.flatMap tc)
  rm : Reads W W.heap.size 2 Am v1.tabs.length (v1.tabs.flatMap tc)
  rn : Reads W W.heap.size 2 An v2.tabs.length (v2.tabs.flatMap tc)
  hB : Below w.heap.size w W
theorem VBs.up {w : World} {v1 v2 : Ver} {A1 A2 Am An : Option Addr} {n1 n2 c1 c2 cm cn g1 g2 gm gn : Nat} {W W' : World} (h : VBs w v1 v2 A1 A2 Am An n1 n2 c1 c2 cm cn g1 g2 gm gn W) (b : Below W.heap.size W W') : VBs w v1 v2 A1 A2 Am An n1 n2 c1 c2 cm cn g1 g2 gm gn W' :=
  ⟨h.b1.below b h.b1.lt, h.b2.below b h.b2.lt, h.bm.below b h.bm.lt, h.bn.below b h.bn.lt, (h.r1.below b).more b.size, (h.r2.below b).more b.size, (h.rm.below b).more b.size, (h.rn.below b).more b.size, h.hB.trans (b.mono h.hB.size)⟩
theorem VBs.drew {w : World} {v1 v2 : Ver} {A1 A2 Am An : Option Addr} {n1 n2 c1 c2 cm cn g1 g2 gm gn : Nat} {W : World} (h : VBs w v1 v2 A1 A2 Am An n1 n2 c1 c2 cm cn g1 g2 gm gn W) : VBs w v1 v2 A1 A2 Am An n1 n2 c1 c2 cm cn g1 g2 gm gn W.drew :=
  ⟨h.b1, h.b2, h.bm, h.bn, h.r1, h.r2, h.rm, h.rn, below_drewN h.hB 1⟩
theorem stand_below {w w' : World} (h : Stand allS w w') : Below w.heap.size w w' := ⟨h.os, h.tape, h.output, h.size, fun k hk => h.block k hk trivial⟩

theorem run_allocV (ρ : Operand → Value) (w : World) (o : Oper) (ho : o.op = .alloc 29) : (execOp ρ o).run Try.prog w = .ok (.value (.pointer (some ⟨w.heap.size, 0, none⟩))) (w.alloc (.cells #[.int .i64 0, .int .i64 0, .slice none 0 0, .int .i64 0, .int .i64 0, .int .i64 0, .int .i64 0, .int .i64 0, .int .i64 0, .int .i64 0, .int .i64 0, .int .i64 0, .bool false] 29)) := by
  unfold execOp
  simp only [ho]
  simp [go_sem, Instr.alloc]
theorem freeA_of {P : Program} {ops : Array Oper} {X : List Nat} {z : Array Value} {t : TypeId} (h : ∀ x ∈ X, ∃ o, ops[x]? = some o ∧ o.guard = none ∧ o.op = .alloc t) (hz : ∀ (ρ : Operand → Value) (w : World) (o : Oper), o.op = .alloc t → (execOp ρ o).run P w = .ok (.value (.pointer (some ⟨w.heap.size, 0, none⟩))) (w.alloc (.cells z t))) : FreeA P ops X (fun _ => z) (fun _ => t) :=
  fun x hx => by
    obtain ⟨o, h1, h2, h3⟩ := h x hx
    exact ⟨o, h1, h2, fun ρ w => hz ρ w o h3⟩

theorem vbs_of {w W w1 w2 w3 w4 w5 : World} {v1 v2 : Ver} {A1 A2 Am An : Option Addr} {n1 n2 c1 c2 cm cn gm gn : Nat} {lm ln : List Value} (em : setA #[.int .i64 0, .int .i64 0, .slice none 0 0, .int .i64 0, .int .i64 0, .int .i64 0, .int .i64 0, .int .i64 0, .int .i64 0, .int .i64 0, .int .i64 0, .int .i64 0, .bool false] 0 lm = verC v1 (.slice Am v1.tabs.length cm)) (en : setA #[.int .i64 0, .int .i64 0, .slice none 0 0, .int .i64 0, .int .i64 0, .int .i64 0, .int .i64 0, .int .i64 0, .int .i64 0, .int .i64 0, .int .i64 0, .int .i64 0, .bool false] 0 ln = verC v2 (.slice An v2.tabs.length cn)) (BK1 : Blk W w.heap.size 26 (verC v1 (.slice A1 n1 c1))) (BK2 : Blk W (w.heap.size + 1) 26 (verC v2 (.slice A2 n2 c2))) (hB : Below w.heap.size w W)
    (HR1 : Hid (Reads W W.heap.size 2 A1 n1 (v1.tabs.flatMap tc))) (HR2 : Hid (Reads W W.heap.size 2 A2 n2 (v2.tabs.flatMap tc))) {N M : Nat}
    (OM : Hid (OwnT w2 N (.slice Am v1.tabs.length cm) v1.tabs)) (HB2 : Hid (Below w1.heap.size w1 w2)) (HS1 : Hid (Stand allS W.drew w1)) (ON : Hid (OwnT w4 M (.slice An v2.tabs.length cn) v2.tabs)) (HB4 : Hid (Below w3.heap.size w3 w4)) (HS3 : Hid (Stand allS w2 w3)) (hS5 : Stand allS w4 w5)
    (bm : Blk w5 gm 29 #[.int .i64 0, .int .i64 0, .slice none 0 0, .int .i64 0, .int .i64 0, .int .i64 0, .int .i64 0, .int .i64 0, .int .i64 0, .int .i64 0, .int .i64 0, .int .i64 0, .bool false]) (bn : Blk w5 gn 29 #[.int .i64 0, .int .i64 0, .slice none 0 0, .int .i64 0, .int .i64 0, .int .i64 0, .int .i64 0, .int .i64 0, .int .i64 0, .int .i64 0, .int .i64 0, .int .i64 0, .bool false]) (hgm : W.heap.size ≤ gm) (hgn : W.heap.size ≤ gn) (hne : gm ≠ gn) :
    Hid (VBs w v1 v2 A1 A2 Am An n1 n2 c1 c2 cm cn w.heap.size (w.heap.size + 1) gm gn (setL (setL w5 gm 0 lm) gn 0 ln)) := by
  have HT : Stand allS W.drew w5 := (((HS1.out.trans (Stand.of_below HB2.out)).trans HS3.out).trans (Stand.of_below HB4.out)).trans hS5
  have om5 : OwnT w5 N (.slice Am v1.tabs.length cm) v1.tabs := OwnT.stand (OwnT.stand (OwnT.stand OM.out HS3.out) (Stand.of_below HB4.out)) hS5
  have on5 : OwnT w5 M (.slice An v2.tabs.length cn) v2.tabs := OwnT.stand ON.out hS5
  have hlt1 := BK1.lt
  have hlt2 := BK2.lt
  have y1 : Blk w5 w.heap.size 26 (verC v1 (.slice A1 n1 c1)) := HT.blk trivial BK1.drew
  have y2 : Blk w5 (w.heap.size + 1) 26 (verC v2 (.slice A2 n2 c2)) := HT.blk trivial BK2.drew
  have hsb : Below W.heap.size W w5 := Below.trans (below_drewN (Below.refl W.heap.size W) 1) (stand_below HT)
  have ne1 : w.heap.size ≠ gm := by omega
  have ne2 : w.heap.size ≠ gn := by omega
  have ne3 : w.heap.size + 1 ≠ gm := by omega
  have ne4 : w.heap.size + 1 ≠ gn := by omega
  have bn2 : Blk (setL w5 gm 0 lm) gn 29 #[.int .i64 0, .int .i64 0, .slice none 0 0, .int .i64 0, .int .i64 0, .int .i64 0, .int .i64 0, .int .i64 0, .int .i64 0, .int .i64 0, .int .i64 0, .int .i64 0, .bool false] := setL_far (Ne.symm hne) lm 0 bn
  have xm : Blk (setL (setL w5 gm 0 lm) gn 0 ln) gm 29 (verC v1 (.slice Am v1.tabs.length cm)) := setL_far hne ln 0 (by rw [← em]; exact setL_blk gm lm 0 bm)
  have xn : Blk (setL (setL w5 gm 0 lm) gn 0 ln) gn 29 (verC v2 (.slice An v2.tabs.length cn)) := by rw [← en]; exact setL_blk gn ln 0 bn2
  have hTb : Below W.heap.size W (setL (setL w5 gm 0 lm) gn 0 ln) := setL_below hgn ln 0 (setL_below hgm lm 0 hsb)
  exact Lib.hid ⟨setL_far ne2 ln 0 (setL_far ne1 lm 0 y1), setL_far ne4 ln 0 (setL_far ne3 lm 0 y2), xm, xn, (HR1.out.below hTb).more hTb.size, (HR2.out.below hTb).more hTb.size, Reads.of_own ((om5.set bm lm 0).set bn2 ln 0), Reads.of_own ((on5.set bm lm 0).set bn2 ln 0), hB.trans (hTb.mono hB.size)⟩

set_option maxRecDepth 100000 in
set_option maxHeartbeats 8000000 in
theorem verse_bytes_walk (w : World) (v1 : Ver) (A1 : Option Addr) (n1 c1 : Nat) (hc1 : n1 ≤ c1) (_ : c1 ≤ maxLen) (hr1 : Reads w w.heap.size 2 A1 n1 (v1.tabs.flatMap tc)) (v2 : Ver) (A2 : Option Addr) (n2 c2 : Nat) (_ : n2 ≤ c2) (_ : c2 ≤ maxLen) (hr2 : Reads w w.heap.size 2 A2 n2 (v2.tabs.flatMap tc)) :
    Calls Try.prog 3 #[.agg (verC v1 (.slice A1 n1 c1)), .agg (verC v2 (.slice A2 n2 c2))] w fun x w' => x = .returned (.bool true) ∧ Below w.heap.size w w' := by
  have BK1 := (Blk.new w 26 (verC v1 (.slice A1 n1 c1))).alloc (.cells (verC v2 (.slice A2 n2 c2)) 26)
  have BK2 := Blk.new (w.alloc (.cells (verC v1 (.slice A1 n1 c1)) 26)) 26 (verC v2 (.slice A2 n2 c2))
  have hB : Below w.heap.size w ((w.alloc (.cells (verC v1 (.slice A1 n1 c1)) 26)).alloc (.cells (verC v2 (.slice A2 n2 c2)) 26)) := ((Below.refl _ _).alloc (Nat.le_refl _) _).alloc (by simp) _
  have hl1 := tabs_n hr1
  have hl2 := tabs_n hr2
  have HR1 := Lib.hid (((hr1.alloc (Nat.le_refl _) (.cells (verC v1 (.slice A1 n1 c1)) 26)).alloc (by simp) (.cells (verC v2 (.slice A2 n2 c2)) 26)).more hB.size)
  have HR2 := Lib.hid (((hr2.alloc (Nat.le_refl _) (.cells (verC v1 (.slice A1 n1 c1)) 26)).alloc (by simp) (.cells (verC v2 (.slice A2 n2 c2)) 26)).more hB.size)
  simp only [World.size_alloc] at BK2
  have HL1 := Lib.hid hl1
  have HL2 := Lib.hid hl2
  clear hr1 hr2 hl1 hl2
  have q2 : ((w.alloc (.cells (verC v1 (.slice A1 n1 c1)) 26)).alloc (.cells (verC v2 (.slice A2 n2 c2)) 26)).cell? ⟨w.heap.size, 2, none⟩ = some (.slice A1 n1 c1) := BK1.cell 2
  have t2 : ((w.alloc (.cells (verC v1 (.slice A1 n1 c1)) 26)).alloc (.cells (verC v2 (.slice A2 n2 c2)) 26)).cell? ⟨w.heap.size + 1, 2, none⟩ = some (.slice A2 n2 c2) := BK2.cell 2
  by_cases hbig : 100 < n1
  · have hd : decide (100 < (n1 : Int)) = true := by simp; omega
    go_enter Try.func3, Try.ntmps3
    go_wp2_with fail
    go_ret
    exact ⟨rfl, hB⟩
  have hd : decide (100 < (n1 : Int)) = false := by simp; omega
  by_cases hbig2 : 100 < n2
  · have hd2 : decide (100 < (n2 : Int)) = true := by simp; omega
    go_enter Try.func3, Try.ntmps3
    go_wp2_with fail
    go_ret
    exact ⟨rfl, hB⟩
  have hd2 : decide (100 < (n2 : Int)) = false := by simp; omega
  go_enter Try.func3, Try.ntmps3
  go_upto_region 3 with fail
  clear q2 t2 hd hd2
  generalize ((w.alloc (.cells (verC v1 (.slice A1 n1 c1)) 26)).alloc (.cells (verC v2 (.slice A2 n2 c2)) 26)) = W at *
  have q0 : ∀ p : Kept allS W.drew, p.v.cell? ⟨w.heap.size, 0, none⟩ = some (.int .i64 v1.log) := fun p => p.h.cell trivial (BK1.drew.cell 0)
  have q1 : ∀ p : Kept allS W.drew, p.v.cell? ⟨w.heap.size, 1, none⟩ = some (.int .i64 v1.next) := fun p => p.h.cell trivial (BK1.drew.cell 1)
  have q2 : ∀ p : Kept allS W.drew, p.v.cell? ⟨w.heap.size, 2, none⟩ = some (.slice A1 n1 c1) := fun p => p.h.cell trivial (BK1.drew.cell 2)
  have q3 : ∀ p : Kept allS W.drew, p.v.cell? ⟨w.heap.size, 3, none⟩ = some (.int .i64 v1.fl.1) := fun p => p.h.cell trivial (BK1.drew.cell 3)
  have q4 : ∀ p : Kept allS W.drew, p.v.cell? ⟨w.heap.size, 4, none⟩ = some (.int .i64 v1.fl.2.1) := fun p => p.h.cell trivial (BK1.drew.cell 4)
  have q5 : ∀ p : Kept allS W.drew, p.v.cell? ⟨w.heap.size, 5, none⟩ = some (.int .i64 v1.fl.2.2) := fun p => p.h.cell trivial (BK1.drew.cell 5)
  have q6 : ∀ p : Kept allS W.drew, p.v.cell? ⟨w.heap.size, 6, none⟩ = some (.int .i64 v1.fe.1) := fun p => p.h.cell trivial (BK1.drew.cell 6)
  have q7 : ∀ p : Kept allS W.drew, p.v.cell? ⟨w.heap.size, 7, none⟩ = some (.int .i64 v1.fe.2.1) := fun p => p.h.cell trivial (BK1.drew.cell 7)
  have q8 : ∀ p : Kept allS W.drew, p.v.cell? ⟨w.heap.size, 8, none⟩ = some (.int .i64 v1.fe.2.2) := fun p => p.h.cell trivial (BK1.drew.cell 8)
  have q9 : ∀ p : Kept allS W.drew, p.v.cell? ⟨w.heap.size, 9, none⟩ = some (.int .i64 v1.se.1) := fun p => p.h.cell trivial (BK1.drew.cell 9)
  have q10 : ∀ p : Kept allS W.drew, p.v.cell? ⟨w.heap.size, 10, none⟩ = some (.int .i64 v1.se.2.1) := fun p => p.h.cell trivial (BK1.drew.cell 10)
  have q11 : ∀ p : Kept allS W.drew, p.v.cell? ⟨w.heap.size, 11, none⟩ = some (.int .i64 v1.se.2.2) := fun p => p.h.cell trivial (BK1.drew.cell 11)
  have q12 : ∀ p : Kept allS W.drew, p.v.cell? ⟨w.heap.size, 12, none⟩ = some (.bool v1.quar) := fun p => p.h.cell trivial (BK1.drew.cell 12)
  have t0 : ∀ p : Kept allS W.drew, p.v.cell? ⟨w.heap.size + 1, 0, none⟩ = some (.int .i64 v2.log) := fun p => p.h.cell trivial (BK2.drew.cell 0)
  have t1 : ∀ p : Kept allS W.drew, p.v.cell? ⟨w.heap.size + 1, 1, none⟩ = some (.int .i64 v2.next) := fun p => p.h.cell trivial (BK2.drew.cell 1)
  have t2 : ∀ p : Kept allS W.drew, p.v.cell? ⟨w.heap.size + 1, 2, none⟩ = some (.slice A2 n2 c2) := fun p => p.h.cell trivial (BK2.drew.cell 2)
  have t3 : ∀ p : Kept allS W.drew, p.v.cell? ⟨w.heap.size + 1, 3, none⟩ = some (.int .i64 v2.fl.1) := fun p => p.h.cell trivial (BK2.drew.cell 3)
  have t4 : ∀ p : Kept allS W.drew, p.v.cell? ⟨w.heap.size + 1, 4, none⟩ = some (.int .i64 v2.fl.2.1) := fun p => p.h.cell trivial (BK2.drew.cell 4)
  have t5 : ∀ p : Kept allS W.drew, p.v.cell? ⟨w.heap.size + 1, 5, none⟩ = some (.int .i64 v2.fl.2.2) := fun p => p.h.cell trivial (BK2.drew.cell 5)
  have t6 : ∀ p : Kept allS W.drew, p.v.cell? ⟨w.heap.size + 1, 6, none⟩ = some (.int .i64 v2.fe.1) := fun p => p.h.cell trivial (BK2.drew.cell 6)
  have t7 : ∀ p : Kept allS W.drew, p.v.cell? ⟨w.heap.size + 1, 7, none⟩ = some (.int .i64 v2.fe.2.1) := fun p => p.h.cell trivial (BK2.drew.cell 7)
  have t8 : ∀ p : Kept allS W.drew, p.v.cell? ⟨w.heap.size + 1, 8, none⟩ = some (.int .i64 v2.fe.2.2) := fun p => p.h.cell trivial (BK2.drew.cell 8)
  have t9 : ∀ p : Kept allS W.drew, p.v.cell? ⟨w.heap.size + 1, 9, none⟩ = some (.int .i64 v2.se.1) := fun p => p.h.cell trivial (BK2.drew.cell 9)
  have t10 : ∀ p : Kept allS W.drew, p.v.cell? ⟨w.heap.size + 1, 10, none⟩ = some (.int .i64 v2.se.2.1) := fun p => p.h.cell trivial (BK2.drew.cell 10)
  have t11 : ∀ p : Kept allS W.drew, p.v.cell? ⟨w.heap.size + 1, 11, none⟩ = some (.int .i64 v2.se.2.2) := fun p => p.h.cell trivial (BK2.drew.cell 11)
  have t12 : ∀ p : Kept allS W.drew, p.v.cell? ⟨w.heap.size + 1, 12, none⟩ = some (.bool v2.quar) := fun p => p.h.cell trivial (BK2.drew.cell 12)
  refine wp_region_mixA [4, 5] (fun _ => #[.int .i64 0, .int .i64 0, .slice none 0 0, .int .i64 0, .int .i64 0, .int .i64 0, .int .i64 0, .int .i64 0, .int .i64 0, .int .i64 0, .int .i64 0, .int .i64 0, .bool false]) (fun _ => 29) 6 [0, 2, 1, 3] (by kernel_rfl) (by kernel_rfl) (freeA_of (fun x hx => by simp only [List.mem_cons, List.mem_nil_iff, or_false] at hx; rcases hx with rfl | rfl <;> exact ⟨_, rfl, rfl, rfl⟩) run_allocV) ?_
  iterate 2 (refine mix_calmC rfl rfl ?_; go_big_quiet_step (fail); refine wpQuiet_nil ?_)
  clear q0 q1 q2 q3 q4 q5 q6 q7 q8 q9 q10 q11 q12 t0 t1 t2 t3 t4 t5 t6 t7 t8 t9 t10 t11 t12
  refine mix_loudC rfl (by kernel_rfl) ?_
  intro w1 hS_w1 K1 hK1
  have HK := Lib.hid hK1
  clear hK1 
  go_wp2_with fail
  refine (law17_mineO v1 A1 n1 c1 w1 ((hS_w1.reads (fun _ _ => trivial) (Nat.le_refl _) (HR1.out.drewN 1)).more hS_w1.size) (by omega)).mono ?_
  rintro x w2 ⟨Am, cm, rfl, hcm, om, b2⟩
  have OM := Lib.hid om
  have HB2 := Lib.hid b2
  have HCM := Lib.hid hcm
  have HS1 := Lib.hid hS_w1
  clear om b2 hcm hS_w1
  go_wp2_with fail
  refine HK.out _ _ (Stand.of_below HB2.out) ?_
  clear HK
  refine mix_loudC rfl (by kernel_rfl) ?_
  intro w3 hS_w3 K1 hK1
  have HK := Lib.hid hK1
  clear hK1 
  go_wp2_with fail
  refine (law17_mineO v2 A2 n2 c2 w3 ((hS_w3.reads (fun _ _ => trivial) (Nat.le_refl _) (((HR2.out.drewN 1).below (stand_below HS1.out) |>.more HS1.out.size).below HB2.out |>.more HB2.out.size)).more hS_w3.size) (by omega)).mono ?_
  rintro x w4 ⟨An, cn, rfl, hcn, on, b4⟩
  have ON := Lib.hid on
  have HB4 := Lib.hid b4
  have HCN := Lib.hid hcn
  have HS3 := Lib.hid hS_w3
  clear on b4 hcn hS_w3
  go_wp2_with fail
  refine HK.out _ _ (Stand.of_below HB4.out) ?_
  clear HK
  refine mix_endC ?_
  intro w5 hS5
  refine made_two (R := fun a' => wpList _ _ _ _ a' w5) (by decide) (some 5) (some 6) rfl rfl ?_
  intro gm gn bm bn hgm hgn hne
  have fm := bm.frozen
  have fn := bn.frozen
  have ca := bm.cell
  have cb := bn.cell
  have hne2 : gn ≠ gm := Ne.symm hne
  unfold verC
  go_wp2_with fail
  rw [← setL13, ← setL13]
  have H := vbs_of (lm := [.int .i64 v1.log, .int .i64 v1.next, .slice Am v1.tabs.length cm, .int .i64 v1.fl.1, .int .i64 v1.fl.2.1, .int .i64 v1.fl.2.2, .int .i64 v1.fe.1, .int .i64 v1.fe.2.1, .int .i64 v1.fe.2.2, .int .i64 v1.se.1, .int .i64 v1.se.2.1, .int .i64 v1.se.2.2, .bool v1.quar]) (ln := [.int .i64 v2.log, .int .i64 v2.next, .slice An v2.tabs.length cn, .int .i64 v2.fl.1, .int .i64 v2.fl.2.1, .int .i64 v2.fl.2.2, .int .i64 v2.fe.1, .int .i64 v2.fe.2.1, .int .i64 v2.fe.2.2, .int .i64 v2.se.1, .int .i64 v2.se.2.1, .int .i64 v2.se.2.2, .bool v2.quar]) (setA13 _ _ _ _ _ _ _ _ _ _ _ _ _ _ _ _ _ _ _ _ _ _ _ _ _ _) (setA13 _ _ _ _ _ _ _ _ _ _ _ _ _ _ _ _ _ _ _ _ _ _ _ _ _ _) BK1 BK2 hB HR1 HR2 OM HB2 HS1 ON HB4 HS3 hS5 bm bn hgm hgn hne
  clear BK1 BK2 hB HR1 HR2 OM ON HB2 HB4 HS1 HS3 hS5 bm bn fm fn ca cb hne hne2 hgm hgn
  generalize setL (setL w5 gm 0 _) gn 0 _ = W6 at *
  have HR := Lib.hid H.out.drew
  clear H
  have H := HR
  clear HR
  have q0 : ∀ p : Kept (fun _ => True) W6.drew, p.v.cell? ⟨w.heap.size, 0, none⟩ = some (.int .i64 v1.log) := fun p => p.h.cell trivial (H.out.b1.cell 0)
  have q1 : ∀ p : Kept (fun _ => True) W6.drew, p.v.cell? ⟨w.heap.size, 1, none⟩ = some (.int .i64 v1.next) := fun p => p.h.cell trivial (H.out.b1.cell 1)
  have q2 : ∀ p : Kept (fun _ => True) W6.drew, p.v.cell? ⟨w.heap.size, 2, none⟩ = some (.slice A1 n1 c1) := fun p => p.h.cell trivial (H.out.b1.cell 2)
  have q3 : ∀ p : Kept (fun _ => True) W6.drew, p.v.cell? ⟨w.heap.size, 3, none⟩ = some (.int .i64 v1.fl.1) := fun p => p.h.cell trivial (H.out.b1.cell 3)
  have q4 : ∀ p : Kept (fun _ => True) W6.drew, p.v.cell? ⟨w.heap.size, 4, none⟩ = some (.int .i64 v1.fl.2.1) := fun p => p.h.cell trivial (H.out.b1.cell 4)
  have q5 : ∀ p : Kept (fun _ => True) W6.drew, p.v.cell? ⟨w.heap.size, 5, none⟩ = some (.int .i64 v1.fl.2.2) := fun p => p.h.cell trivial (H.out.b1.cell 5)
  have q6 : ∀ p : Kept (fun _ => True) W6.drew, p.v.cell? ⟨w.heap.size, 6, none⟩ = some (.int .i64 v1.fe.1) := fun p => p.h.cell trivial (H.out.b1.cell 6)
  have q7 : ∀ p : Kept (fun _ => True) W6.drew, p.v.cell? ⟨w.heap.size, 7, none⟩ = some (.int .i64 v1.fe.2.1) := fun p => p.h.cell trivial (H.out.b1.cell 7)
  have q8 : ∀ p : Kept (fun _ => True) W6.drew, p.v.cell? ⟨w.heap.size, 8, none⟩ = some (.int .i64 v1.fe.2.2) := fun p => p.h.cell trivial (H.out.b1.cell 8)
  have q9 : ∀ p : Kept (fun _ => True) W6.drew, p.v.cell? ⟨w.heap.size, 9, none⟩ = some (.int .i64 v1.se.1) := fun p => p.h.cell trivial (H.out.b1.cell 9)
  have q10 : ∀ p : Kept (fun _ => True) W6.drew, p.v.cell? ⟨w.heap.size, 10, none⟩ = some (.int .i64 v1.se.2.1) := fun p => p.h.cell trivial (H.out.b1.cell 10)
  have q11 : ∀ p : Kept (fun _ => True) W6.drew, p.v.cell? ⟨w.heap.size, 11, none⟩ = some (.int .i64 v1.se.2.2) := fun p => p.h.cell trivial (H.out.b1.cell 11)
  have q12 : ∀ p : Kept (fun _ => True) W6.drew, p.v.cell? ⟨w.heap.size, 12, none⟩ = some (.bool v1.quar) := fun p => p.h.cell trivial (H.out.b1.cell 12)
  have t0 : ∀ p : Kept (fun _ => True) W6.drew, p.v.cell? ⟨gm, 0, none⟩ = some (.int .i64 v1.log) := fun p => p.h.cell trivial (H.out.bm.cell 0)
  have t1 : ∀ p : Kept (fun _ => True) W6.drew, p.v.cell? ⟨gm, 1, none⟩ = some (.int .i64 v1.next) := fun p => p.h.cell trivial (H.out.bm.cell 1)
  have t2 : ∀ p : Kept (fun _ => True) W6.drew, p.v.cell? ⟨gm, 2, none⟩ = some (.slice Am v1.tabs.length cm) := fun p => p.h.cell trivial (H.out.bm.cell 2)
  have t3 : ∀ p : Kept (fun _ => True) W6.drew, p.v.cell? ⟨gm, 3, none⟩ = some (.int .i64 v1.fl.1) := fun p => p.h.cell trivial (H.out.bm.cell 3)
  have t4 : ∀ p : Kept (fun _ => True) W6.drew, p.v.cell? ⟨gm, 4, none⟩ = some (.int .i64 v1.fl.2.1) := fun p => p.h.cell trivial (H.out.bm.cell 4)
  have t5 : ∀ p : Kept (fun _ => True) W6.drew, p.v.cell? ⟨gm, 5, none⟩ = some (.int .i64 v1.fl.2.2) := fun p => p.h.cell trivial (H.out.bm.cell 5)
  have t6 : ∀ p : Kept (fun _ => True) W6.drew, p.v.cell? ⟨gm, 6, none⟩ = some (.int .i64 v1.fe.1) := fun p => p.h.cell trivial (H.out.bm.cell 6)
  have t7 : ∀ p : Kept (fun _ => True) W6.drew, p.v.cell? ⟨gm, 7, none⟩ = some (.int .i64 v1.fe.2.1) := fun p => p.h.cell trivial (H.out.bm.cell 7)
  have t8 : ∀ p : Kept (fun _ => True) W6.drew, p.v.cell? ⟨gm, 8, none⟩ = some (.int .i64 v1.fe.2.2) := fun p => p.h.cell trivial (H.out.bm.cell 8)
  have t9 : ∀ p : Kept (fun _ => True) W6.drew, p.v.cell? ⟨gm, 9, none⟩ = some (.int .i64 v1.se.1) := fun p => p.h.cell trivial (H.out.bm.cell 9)
  have t10 : ∀ p : Kept (fun _ => True) W6.drew, p.v.cell? ⟨gm, 10, none⟩ = some (.int .i64 v1.se.2.1) := fun p => p.h.cell trivial (H.out.bm.cell 10)
  have t11 : ∀ p : Kept (fun _ => True) W6.drew, p.v.cell? ⟨gm, 11, none⟩ = some (.int .i64 v1.se.2.2) := fun p => p.h.cell trivial (H.out.bm.cell 11)
  have t12 : ∀ p : Kept (fun _ => True) W6.drew, p.v.cell? ⟨gm, 12, none⟩ = some (.bool v1.quar) := fun p => p.h.cell trivial (H.out.bm.cell 12)
  obtain ⟨rb1, hrb1⟩ : ∃ b, vrtB v1 = b := ⟨_, rfl⟩
  have hbb : (rb1 != rb1) = false := by simp
  refine wp_region_mixDk (M := []) (fun _ => True) [0, 2, 1, 3, 4] (by kernel_rfl) (by kernel_rfl) ?_
  iterate 2 (refine mix_calmDk rfl rfl ?_; go_big_quiet_step (fail); refine wpQuiet_nil ?_)
  clear q0 q1 q2 q3 q4 q5 q6 q7 q8 q9 q10 q11 q12 t0 t1 t2 t3 t4 t5 t6 t7 t8 t9 t10 t11 t12
  refine mix_loudDk rfl (by kernel_rfl) rfl ?_
  intro K1 hK1
  have HK := Lib.hid hK1
  clear hK1 
  go_wp2_with fail
  refine (verse_Right v1 A1 n1 c1 W6.drew H.out.r1 (by omega) hc1).mono ?_
  rintro x w7 ⟨rfl, b7⟩
  have b7' := Lib.hid b7
  replace H := Lib.hid (H.out.up b7)
  clear b7
  rw [hrb1]
  go_wp2_with fail
  refine HK.out _ _ (Stand.of_below b7'.out) ?_
  clear HK
  refine mix_loudDk rfl (by kernel_rfl) rfl ?_
  intro K1 hK1
  have HK := Lib.hid hK1
  clear hK1 
  go_wp2_with fail
  refine (ref17_Right v1 Am _ cm w7 H.out.rm (by have := HL1.out; omega)).mono ?_
  rintro x w8 ⟨rfl, b8⟩
  have b8' := Lib.hid b8
  replace H := Lib.hid (H.out.up b8)
  clear b8
  rw [hrb1]
  go_wp2_with fail
  refine HK.out _ _ (Stand.of_below b8'.out) ?_
  clear HK
  iterate 1 (refine mix_calmDk rfl rfl ?_; go_big_quiet_step (fail); refine wpQuiet_nil ?_)
  refine mix_endDk ?_
  clear b7' b8'
  have q0 : w8.cell? ⟨gm, 0, none⟩ = some (.int .i64 v1.log) := H.out.bm.cell 0
  have q1 : w8.cell? ⟨gm, 1, none⟩ = some (.int .i64 v1.next) := H.out.bm.cell 1
  have q2 : w8.cell? ⟨gm, 2, none⟩ = some (.slice Am v1.tabs.length cm) := H.out.bm.cell 2
  have q3 : w8.cell? ⟨gm, 3, none⟩ = some (.int .i64 v1.fl.1) := H.out.bm.cell 3
  have q4 : w8.cell? ⟨gm, 4, none⟩ = some (.int .i64 v1.fl.2.1) := H.out.bm.cell 4
  have q5 : w8.cell? ⟨gm, 5, none⟩ = some (.int .i64 v1.fl.2.2) := H.out.bm.cell 5
  have q6 : w8.cell? ⟨gm, 6, none⟩ = some (.int .i64 v1.fe.1) := H.out.bm.cell 6
  have q7 : w8.cell? ⟨gm, 7, none⟩ = some (.int .i64 v1.fe.2.1) := H.out.bm.cell 7
  have q8 : w8.cell? ⟨gm, 8, none⟩ = some (.int .i64 v1.fe.2.2) := H.out.bm.cell 8
  have q9 : w8.cell? ⟨gm, 9, none⟩ = some (.int .i64 v1.se.1) := H.out.bm.cell 9
  have q10 : w8.cell? ⟨gm, 10, none⟩ = some (.int .i64 v1.se.2.1) := H.out.bm.cell 10
  have q11 : w8.cell? ⟨gm, 11, none⟩ = some (.int .i64 v1.se.2.2) := H.out.bm.cell 11
  have q12 : w8.cell? ⟨gm, 12, none⟩ = some (.bool v1.quar) := H.out.bm.cell 12
  go_wp2_with fail
  refine (ref17_Right v1 Am _ cm w8 H.out.rm (by have := HL1.out; omega)).mono ?_
  rintro x w9 ⟨rfl, b9⟩
  replace H := Lib.hid (H.out.up b9)
  rw [hrb1]
  clear b9 q0 q1 q2 q3 q4 q5 q6 q7 q8 q9 q10 q11 q12
  cases rb1
  case false =>
    go_wp2_with fail
    refine (alive17 w9).mono ?_
    rintro x w10 ⟨rfl, b9⟩
    go_wp2_with fail
    go_ret
    exact ⟨rfl, H.out.hB.trans (b9.mono H.out.hB.size)⟩
  have V1 := Lib.hid (vrt_of hrb1)
  clear hrb1 hbb
  have q0 : w9.cell? ⟨gn, 0, none⟩ = some (.int .i64 v2.log) := H.out.bn.cell 0
  have q1 : w9.cell? ⟨gn, 1, none⟩ = some (.int .i64 v2.next) := H.out.bn.cell 1
  have q2 : w9.cell? ⟨gn, 2, none⟩ = some (.slice An v2.tabs.length cn) := H.out.bn.cell 2
  have q3 : w9.cell? ⟨gn, 3, none⟩ = some (.int .i64 v2.fl.1) := H.out.bn.cell 3
  have q4 : w9.cell? ⟨gn, 4, none⟩ = some (.int .i64 v2.fl.2.1) := H.out.bn.cell 4
  have q5 : w9.cell? ⟨gn, 5, none⟩ = some (.int .i64 v2.fl.2.2) := H.out.bn.cell 5
  have q6 : w9.cell? ⟨gn, 6, none⟩ = some (.int .i64 v2.fe.1) := H.out.bn.cell 6
  have q7 : w9.cell? ⟨gn, 7, none⟩ = some (.int .i64 v2.fe.2.1) := H.out.bn.cell 7
  have q8 : w9.cell? ⟨gn, 8, none⟩ = some (.int .i64 v2.fe.2.2) := H.out.bn.cell 8
  have q9 : w9.cell? ⟨gn, 9, none⟩ = some (.int .i64 v2.se.1) := H.out.bn.cell 9
  have q10 : w9.cell? ⟨gn, 10, none⟩ = some (.int .i64 v2.se.2.1) := H.out.bn.cell 10
  have q11 : w9.cell? ⟨gn, 11, none⟩ = some (.int .i64 v2.se.2.2) := H.out.bn.cell 11
  have q12 : w9.cell? ⟨gn, 12, none⟩ = some (.bool v2.quar) := H.out.bn.cell 12
  go_wp2_with fail
  obtain ⟨rb2, hrb2⟩ : ∃ b, vrtB v2 = b := ⟨_, rfl⟩
  refine (ref17_Right v2 An _ cn w9 H.out.rn (by have := HL2.out; omega)).mono ?_
  rintro x w10 ⟨rfl, b9⟩
  replace H := Lib.hid (H.out.up b9)
  rw [hrb2]
  clear b9 q0 q1 q2 q3 q4 q5 q6 q7 q8 q9 q10 q11 q12
  cases rb2
  case false =>
    go_wp2_with fail
    refine (alive17 w10).mono ?_
    rintro x w11 ⟨rfl, b9⟩
    go_wp2_with fail
    go_ret
    exact ⟨rfl, H.out.hB.trans (b9.mono H.out.hB.size)⟩
  have V2 := Lib.hid (vrt_of hrb2)
  have I1 := Lib.hid (nat_in (vrt_nat V1.out))
  have I2 := Lib.hid (nat_in (vrt_nat V2.out))
  have LV1 := Lib.hid (vput_len v1 I1.out (by have := HL1.out; omega))
  have LV2 := Lib.hid (vput_len v2 I2.out (by have := HL2.out; omega))
  clear hrb2
  have q0 : w10.cell? ⟨w.heap.size, 0, none⟩ = some (.int .i64 v1.log) := H.out.b1.cell 0
  have q1 : w10.cell? ⟨w.heap.size, 1, none⟩ = some (.int .i64 v1.next) := H.out.b1.cell 1
  have q2 : w10.cell? ⟨w.heap.size, 2, none⟩ = some (.slice A1 n1 c1) := H.out.b1.cell 2
  have q3 : w10.cell? ⟨w.heap.size, 3, none⟩ = some (.int .i64 v1.fl.1) := H.out.b1.cell 3
  have q4 : w10.cell? ⟨w.heap.size, 4, none⟩ = some (.int .i64 v1.fl.2.1) := H.out.b1.cell 4
  have q5 : w10.cell? ⟨w.heap.size, 5, none⟩ = some (.int .i64 v1.fl.2.2) := H.out.b1.cell 5
  have q6 : w10.cell? ⟨w.heap.size, 6, none⟩ = some (.int .i64 v1.fe.1) := H.out.b1.cell 6
  have q7 : w10.cell? ⟨w.heap.size, 7, none⟩ = some (.int .i64 v1.fe.2.1) := H.out.b1.cell 7
  have q8 : w10.cell? ⟨w.heap.size, 8, none⟩ = some (.int .i64 v1.fe.2.2) := H.out.b1.cell 8
  have q9 : w10.cell? ⟨w.heap.size, 9, none⟩ = some (.int .i64 v1.se.1) := H.out.b1.cell 9
  have q10 : w10.cell? ⟨w.heap.size, 10, none⟩ = some (.int .i64 v1.se.2.1) := H.out.b1.cell 10
  have q11 : w10.cell? ⟨w.heap.size, 11, none⟩ = some (.int .i64 v1.se.2.2) := H.out.b1.cell 11
  have q12 : w10.cell? ⟨w.heap.size, 12, none⟩ = some (.bool v1.quar) := H.out.b1.cell 12
  go_wp2_with fail
  refine (verse_Put v1 A1 n1 c1 I1.out w10 H.out.r1 (by omega)).mono ?_
  rintro x w11 ⟨x1, rfl, o1, b9⟩
  replace H := Lib.hid (H.out.up b9)
  obtain ⟨A5, c5, rfl, hc5, R5⟩ := o1.reads
  clear b9 o1 q0 q1 q2 q3 q4 q5 q6 q7 q8 q9 q10 q11 q12
  go_wp2_with fail
  refine (verse_Get_put v1 V1.out A5 _ c5 w11 R5 hc5 (by have := LV1.out; omega)).mono ?_
  rintro x w12 ⟨Ab, cb, rfl, hcb, Rb, b9⟩
  replace H := Lib.hid (H.out.up b9)
  clear b9 R5 hc5
  unfold verC
  go_wp2_with fail
  have hal : Below w12.heap.size w12 (w12.alloc (.cells (verC v1 (.slice Ab v1.tabs.length cb)) 26)) := (Below.refl _ _).alloc (Nat.le_refl _) _
  have HBk : Hid (Blk (w12.alloc (.cells (verC v1 (.slice Ab v1.tabs.length cb)) 26)) w12.heap.size 26 (verC v1 (.slice Ab v1.tabs.length cb)) ∧ Reads (w12.alloc (.cells (verC v1 (.slice Ab v1.tabs.length cb)) 26)) (w12.alloc (.cells (verC v1 (.slice Ab v1.tabs.length cb)) 26)).heap.size 2 Ab v1.tabs.length (v1.tabs.flatMap tc)) := Lib.hid ⟨Blk.new _ _ _, (Rb.below hal).more hal.size⟩
  replace H := Lib.hid (H.out.up hal)
  clear hal Rb
  change Code.wp _ _ _ _ (w12.alloc (.cells (verC v1 (.slice Ab v1.tabs.length cb)) 26))
  generalize w12.alloc (.cells (verC v1 (.slice Ab v1.tabs.length cb)) 26) = W at *
  generalize w12.heap.size = gb at *
  have HRr := Lib.hid H.out.drew
  clear H
  have H := HRr
  clear HRr
  have HBr : Hid (Blk W.drew gb 26 (verC v1 (.slice Ab v1.tabs.length cb)) ∧ Reads W.drew W.drew.heap.size 2 Ab v1.tabs.length (v1.tabs.flatMap tc)) := Lib.hid HBk.out
  clear HBk
  have HBk := HBr
  clear HBr
  have q0 : ∀ p : Kept (fun _ => True) W.drew, p.v.cell? ⟨gm, 0, none⟩ = some (.int .i64 v1.log) := fun p => p.h.cell trivial (H.out.bm.cell 0)
  have q1 : ∀ p : Kept (fun _ => True) W.drew, p.v.cell? ⟨gm, 1, none⟩ = some (.int .i64 v1.next) := fun p => p.h.cell trivial (H.out.bm.cell 1)
  have q2 : ∀ p : Kept (fun _ => True) W.drew, p.v.cell? ⟨gm, 2, none⟩ = some (.slice Am v1.tabs.length cm) := fun p => p.h.cell trivial (H.out.bm.cell 2)
  have q3 : ∀ p : Kept (fun _ => True) W.drew, p.v.cell? ⟨gm, 3, none⟩ = some (.int .i64 v1.fl.1) := fun p => p.h.cell trivial (H.out.bm.cell 3)
  have q4 : ∀ p : Kept (fun _ => True) W.drew, p.v.cell? ⟨gm, 4, none⟩ = some (.int .i64 v1.fl.2.1) := fun p => p.h.cell trivial (H.out.bm.cell 4)
  have q5 : ∀ p : Kept (fun _ => True) W.drew, p.v.cell? ⟨gm, 5, none⟩ = some (.int .i64 v1.fl.2.2) := fun p => p.h.cell trivial (H.out.bm.cell 5)
  have q6 : ∀ p : Kept (fun _ => True) W.drew, p.v.cell? ⟨gm, 6, none⟩ = some (.int .i64 v1.fe.1) := fun p => p.h.cell trivial (H.out.bm.cell 6)
  have q7 : ∀ p : Kept (fun _ => True) W.drew, p.v.cell? ⟨gm, 7, none⟩ = some (.int .i64 v1.fe.2.1) := fun p => p.h.cell trivial (H.out.bm.cell 7)
  have q8 : ∀ p : Kept (fun _ => True) W.drew, p.v.cell? ⟨gm, 8, none⟩ = some (.int .i64 v1.fe.2.2) := fun p => p.h.cell trivial (H.out.bm.cell 8)
  have q9 : ∀ p : Kept (fun _ => True) W.drew, p.v.cell? ⟨gm, 9, none⟩ = some (.int .i64 v1.se.1) := fun p => p.h.cell trivial (H.out.bm.cell 9)
  have q10 : ∀ p : Kept (fun _ => True) W.drew, p.v.cell? ⟨gm, 10, none⟩ = some (.int .i64 v1.se.2.1) := fun p => p.h.cell trivial (H.out.bm.cell 10)
  have q11 : ∀ p : Kept (fun _ => True) W.drew, p.v.cell? ⟨gm, 11, none⟩ = some (.int .i64 v1.se.2.2) := fun p => p.h.cell trivial (H.out.bm.cell 11)
  have q12 : ∀ p : Kept (fun _ => True) W.drew, p.v.cell? ⟨gm, 12, none⟩ = some (.bool v1.quar) := fun p => p.h.cell trivial (H.out.bm.cell 12)
  have t0 : ∀ p : Kept (fun _ => True) W.drew, p.v.cell? ⟨gn, 0, none⟩ = some (.int .i64 v2.log) := fun p => p.h.cell trivial (H.out.bn.cell 0)
  have t1 : ∀ p : Kept (fun _ => True) W.drew, p.v.cell? ⟨gn, 1, none⟩ = some (.int .i64 v2.next) := fun p => p.h.cell trivial (H.out.bn.cell 1)
  have t2 : ∀ p : Kept (fun _ => True) W.drew, p.v.cell? ⟨gn, 2, none⟩ = some (.slice An v2.tabs.length cn) := fun p => p.h.cell trivial (H.out.bn.cell 2)
  have t3 : ∀ p : Kept (fun _ => True) W.drew, p.v.cell? ⟨gn, 3, none⟩ = some (.int .i64 v2.fl.1) := fun p => p.h.cell trivial (H.out.bn.cell 3)
  have t4 : ∀ p : Kept (fun _ => True) W.drew, p.v.cell? ⟨gn, 4, none⟩ = some (.int .i64 v2.fl.2.1) := fun p => p.h.cell trivial (H.out.bn.cell 4)
  have t5 : ∀ p : Kept (fun _ => True) W.drew, p.v.cell? ⟨gn, 5, none⟩ = some (.int .i64 v2.fl.2.2) := fun p => p.h.cell trivial (H.out.bn.cell 5)
  have t6 : ∀ p : Kept (fun _ => True) W.drew, p.v.cell? ⟨gn, 6, none⟩ = some (.int .i64 v2.fe.1) := fun p => p.h.cell trivial (H.out.bn.cell 6)
  have t7 : ∀ p : Kept (fun _ => True) W.drew, p.v.cell? ⟨gn, 7, none⟩ = some (.int .i64 v2.fe.2.1) := fun p => p.h.cell trivial (H.out.bn.cell 7)
  have t8 : ∀ p : Kept (fun _ => True) W.drew, p.v.cell? ⟨gn, 8, none⟩ = some (.int .i64 v2.fe.2.2) := fun p => p.h.cell trivial (H.out.bn.cell 8)
  have t9 : ∀ p : Kept (fun _ => True) W.drew, p.v.cell? ⟨gn, 9, none⟩ = some (.int .i64 v2.se.1) := fun p => p.h.cell trivial (H.out.bn.cell 9)
  have t10 : ∀ p : Kept (fun _ => True) W.drew, p.v.cell? ⟨gn, 10, none⟩ = some (.int .i64 v2.se.2.1) := fun p => p.h.cell trivial (H.out.bn.cell 10)
  have t11 : ∀ p : Kept (fun _ => True) W.drew, p.v.cell? ⟨gn, 11, none⟩ = some (.int .i64 v2.se.2.2) := fun p => p.h.cell trivial (H.out.bn.cell 11)
  have t12 : ∀ p : Kept (fun _ => True) W.drew, p.v.cell? ⟨gn, 12, none⟩ = some (.bool v2.quar) := fun p => p.h.cell trivial (H.out.bn.cell 12)
  refine wp_region_mixTk (M := []) (fun _ => True) 5 [0, 2, 1, 3, 4] (by kernel_rfl) (by kernel_rfl) ?_
  iterate 2 (refine mix_calmDk rfl rfl ?_; go_big_quiet_step (fail); refine wpQuiet_nil ?_)
  clear q0 q1 q2 q3 q4 q5 q6 q7 q8 q9 q10 q11 q12 t0 t1 t2 t3 t4 t5 t6 t7 t8 t9 t10 t11 t12
  refine mix_loudDk rfl (by kernel_rfl) rfl ?_
  intro K1 hK1
  have HK := Lib.hid hK1
  clear hK1 
  go_wp2_with fail
  refine (ref17_Put v1 Am _ cm I1.out W.drew H.out.rm (by have := HL1.out; omega)).mono ?_
  rintro x u1 ⟨y1, rfl, o1, b1⟩
  have O1 := Lib.hid o1
  have b1' := Lib.hid b1
  replace H := Lib.hid (H.out.up b1)
  replace HBk := Lib.hid (And.intro (HBk.out.1.below b1 HBk.out.1.lt) ((HBk.out.2.below b1).more b1.size))
  clear b1
  clear o1
  go_wp2_with fail
  refine HK.out _ _ (Stand.of_below b1'.out) ?_
  clear HK
  refine mix_loudDk rfl (by kernel_rfl) rfl ?_
  intro K1 hK1
  have HK := Lib.hid hK1
  clear hK1 
  go_wp2_with fail
  refine (ref17_Put v2 An _ cn I2.out u1 H.out.rn (by have := HL2.out; omega)).mono ?_
  rintro x u2 ⟨y2, rfl, o2, b2⟩
  have O2 := Lib.hid o2
  replace O1 := Lib.hid (O1.out.below b2)
  have b2' := Lib.hid b2
  replace H := Lib.hid (H.out.up b2)
  replace HBk := Lib.hid (And.intro (HBk.out.1.below b2 HBk.out.1.lt) ((HBk.out.2.below b2).more b2.size))
  clear b2
  clear o2
  go_wp2_with fail
  refine HK.out _ _ (Stand.of_below b2'.out) ?_
  clear HK
  obtain ⟨rs, hrs⟩ : ∃ b, decide (vput v1 = vput v2) = b := ⟨_, rfl⟩
  have HRS := Lib.hid hrs
  have HEq := Lib.hid (own_Equal O1.out O2.out (by have := LV1.out; omega))
  rw [hrs] at HEq
  clear hrs O1 O2 b1' b2'
  refine mix_loudDk rfl (by kernel_rfl) rfl ?_
  intro K1 hK1
  have HK := Lib.hid hK1
  clear hK1 
  go_wp2_with fail
  refine (HEq.out).mono ?_
  rintro x u3 ⟨rfl, b3⟩
  have b3' := Lib.hid b3
  replace H := Lib.hid (H.out.up b3)
  replace HBk := Lib.hid (And.intro (HBk.out.1.below b3 HBk.out.1.lt) ((HBk.out.2.below b3).more b3.size))
  clear b3
  go_wp2_with fail
  refine HK.out _ _ (Stand.of_below b3'.out) ?_
  clear HK
  refine mix_endDk ?_
  clear HEq b3'
  go_wp2_with fail
  have HRr := Lib.hid H.out.drew
  clear H
  have H := HRr
  clear HRr
  have HBr : Hid (Blk u3.drew gb 26 (verC v1 (.slice Ab v1.tabs.length cb)) ∧ Reads u3.drew u3.drew.heap.size 2 Ab v1.tabs.length (v1.tabs.flatMap tc)) := Lib.hid HBk.out
  clear HBk
  have HBk := HBr
  clear HBr
  have q0 : ∀ p : Kept (fun _ => True) u3.drew, p.v.cell? ⟨w.heap.size, 0, none⟩ = some (.int .i64 v1.log) := fun p => p.h.cell trivial (H.out.b1.cell 0)
  have q1 : ∀ p : Kept (fun _ => True) u3.drew, p.v.cell? ⟨w.heap.size, 1, none⟩ = some (.int .i64 v1.next) := fun p => p.h.cell trivial (H.out.b1.cell 1)
  have q2 : ∀ p : Kept (fun _ => True) u3.drew, p.v.cell? ⟨w.heap.size, 2, none⟩ = some (.slice A1 n1 c1) := fun p => p.h.cell trivial (H.out.b1.cell 2)
  have q3 : ∀ p : Kept (fun _ => True) u3.drew, p.v.cell? ⟨w.heap.size, 3, none⟩ = some (.int .i64 v1.fl.1) := fun p => p.h.cell trivial (H.out.b1.cell 3)
  have q4 : ∀ p : Kept (fun _ => True) u3.drew, p.v.cell? ⟨w.heap.size, 4, none⟩ = some (.int .i64 v1.fl.2.1) := fun p => p.h.cell trivial (H.out.b1.cell 4)
  have q5 : ∀ p : Kept (fun _ => True) u3.drew, p.v.cell? ⟨w.heap.size, 5, none⟩ = some (.int .i64 v1.fl.2.2) := fun p => p.h.cell trivial (H.out.b1.cell 5)
  have q6 : ∀ p : Kept (fun _ => True) u3.drew, p.v.cell? ⟨w.heap.size, 6, none⟩ = some (.int .i64 v1.fe.1) := fun p => p.h.cell trivial (H.out.b1.cell 6)
  have q7 : ∀ p : Kept (fun _ => True) u3.drew, p.v.cell? ⟨w.heap.size, 7, none⟩ = some (.int .i64 v1.fe.2.1) := fun p => p.h.cell trivial (H.out.b1.cell 7)
  have q8 : ∀ p : Kept (fun _ => True) u3.drew, p.v.cell? ⟨w.heap.size, 8, none⟩ = some (.int .i64 v1.fe.2.2) := fun p => p.h.cell trivial (H.out.b1.cell 8)
  have q9 : ∀ p : Kept (fun _ => True) u3.drew, p.v.cell? ⟨w.heap.size, 9, none⟩ = some (.int .i64 v1.se.1) := fun p => p.h.cell trivial (H.out.b1.cell 9)
  have q10 : ∀ p : Kept (fun _ => True) u3.drew, p.v.cell? ⟨w.heap.size, 10, none⟩ = some (.int .i64 v1.se.2.1) := fun p => p.h.cell trivial (H.out.b1.cell 10)
  have q11 : ∀ p : Kept (fun _ => True) u3.drew, p.v.cell? ⟨w.heap.size, 11, none⟩ = some (.int .i64 v1.se.2.2) := fun p => p.h.cell trivial (H.out.b1.cell 11)
  have q12 : ∀ p : Kept (fun _ => True) u3.drew, p.v.cell? ⟨w.heap.size, 12, none⟩ = some (.bool v1.quar) := fun p => p.h.cell trivial (H.out.b1.cell 12)
  have t0 : ∀ p : Kept (fun _ => True) u3.drew, p.v.cell? ⟨gm, 0, none⟩ = some (.int .i64 v1.log) := fun p => p.h.cell trivial (H.out.bm.cell 0)
  have t1 : ∀ p : Kept (fun _ => True) u3.drew, p.v.cell? ⟨gm, 1, none⟩ = some (.int .i64 v1.next) := fun p => p.h.cell trivial (H.out.bm.cell 1)
  have t2 : ∀ p : Kept (fun _ => True) u3.drew, p.v.cell? ⟨gm, 2, none⟩ = some (.slice Am v1.tabs.length cm) := fun p => p.h.cell trivial (H.out.bm.cell 2)
  have t3 : ∀ p : Kept (fun _ => True) u3.drew, p.v.cell? ⟨gm, 3, none⟩ = some (.int .i64 v1.fl.1) := fun p => p.h.cell trivial (H.out.bm.cell 3)
  have t4 : ∀ p : Kept (fun _ => True) u3.drew, p.v.cell? ⟨gm, 4, none⟩ = some (.int .i64 v1.fl.2.1) := fun p => p.h.cell trivial (H.out.bm.cell 4)
  have t5 : ∀ p : Kept (fun _ => True) u3.drew, p.v.cell? ⟨gm, 5, none⟩ = some (.int .i64 v1.fl.2.2) := fun p => p.h.cell trivial (H.out.bm.cell 5)
  have t6 : ∀ p : Kept (fun _ => True) u3.drew, p.v.cell? ⟨gm, 6, none⟩ = some (.int .i64 v1.fe.1) := fun p => p.h.cell trivial (H.out.bm.cell 6)
  have t7 : ∀ p : Kept (fun _ => True) u3.drew, p.v.cell? ⟨gm, 7, none⟩ = some (.int .i64 v1.fe.2.1) := fun p => p.h.cell trivial (H.out.bm.cell 7)
  have t8 : ∀ p : Kept (fun _ => True) u3.drew, p.v.cell? ⟨gm, 8, none⟩ = some (.int .i64 v1.fe.2.2) := fun p => p.h.cell trivial (H.out.bm.cell 8)
  have t9 : ∀ p : Kept (fun _ => True) u3.drew, p.v.cell? ⟨gm, 9, none⟩ = some (.int .i64 v1.se.1) := fun p => p.h.cell trivial (H.out.bm.cell 9)
  have t10 : ∀ p : Kept (fun _ => True) u3.drew, p.v.cell? ⟨gm, 10, none⟩ = some (.int .i64 v1.se.2.1) := fun p => p.h.cell trivial (H.out.bm.cell 10)
  have t11 : ∀ p : Kept (fun _ => True) u3.drew, p.v.cell? ⟨gm, 11, none⟩ = some (.int .i64 v1.se.2.2) := fun p => p.h.cell trivial (H.out.bm.cell 11)
  have t12 : ∀ p : Kept (fun _ => True) u3.drew, p.v.cell? ⟨gm, 12, none⟩ = some (.bool v1.quar) := fun p => p.h.cell trivial (H.out.bm.cell 12)
  have hss : (rs == rs) = true := by simp
  refine wp_region_mixTk (M := []) (fun _ => True) 27 [0, 2, 1, 3, 4, 5, 6, 7, 8, 9, 10, 13, 11, 12, 14, 15, 16, 17, 18, 19, 21, 20, 22, 23, 24, 25, 26] (by kernel_rfl) (by kernel_rfl) ?_
  iterate 2 (refine mix_calmDk rfl rfl ?_; go_big_quiet_step (fail); refine wpQuiet_nil ?_)
  clear q0 q1 q2 q3 q4 q5 q6 q7 q8 q9 q10 q11 q12 t0 t1 t2 t3 t4 t5 t6 t7 t8 t9 t10 t11 t12
  refine mix_loudDk rfl (by kernel_rfl) rfl ?_
  intro K1 hK1
  have HK := Lib.hid hK1
  clear hK1 
  go_wp2_with fail
  refine (verse_Put v1 A1 n1 c1 I1.out u3.drew H.out.r1 (by omega)).mono ?_
  rintro x u4 ⟨y4, rfl, o4, b4⟩
  have O4 := Lib.hid o4
  have b4' := Lib.hid b4
  replace H := Lib.hid (H.out.up b4)
  replace HBk := Lib.hid (And.intro (HBk.out.1.below b4 HBk.out.1.lt) ((HBk.out.2.below b4).more b4.size))
  clear b4
  clear o4
  go_wp2_with fail
  refine HK.out _ _ (Stand.of_below b4'.out) ?_
  clear HK
  refine mix_loudDk rfl (by kernel_rfl) rfl ?_
  intro K1 hK1
  have HK := Lib.hid hK1
  clear hK1 
  go_wp2_with fail
  refine (ref17_Put v1 Am _ cm I1.out u4 H.out.rm (by have := HL1.out; omega)).mono ?_
  rintro x u5 ⟨y5, rfl, o5, b5⟩
  have O5 := Lib.hid o5
  replace O4 := Lib.hid (O4.out.below b5)
  have b5' := Lib.hid b5
  replace H := Lib.hid (H.out.up b5)
  replace HBk := Lib.hid (And.intro (HBk.out.1.below b5 HBk.out.1.lt) ((HBk.out.2.below b5).more b5.size))
  clear b5
  clear o5
  go_wp2_with fail
  refine HK.out _ _ (Stand.of_below b5'.out) ?_
  clear HK
  have HEq := Lib.hid (own_Equal O4.out O5.out (by have := LV1.out; omega))
  rw [decide_eq_true rfl] at HEq
  clear O4 O5 b4' b5'
  refine mix_loudDk rfl (by kernel_rfl) rfl ?_
  intro K1 hK1
  have HK := Lib.hid hK1
  clear hK1 
  go_wp2_with fail
  refine (HEq.out).mono ?_
  rintro x u6 ⟨rfl, b6⟩
  have b6' := Lib.hid b6
  replace H := Lib.hid (H.out.up b6)
  replace HBk := Lib.hid (And.intro (HBk.out.1.below b6 HBk.out.1.lt) ((HBk.out.2.below b6).more b6.size))
  clear b6
  go_wp2_with fail
  refine HK.out _ _ (Stand.of_below b6'.out) ?_
  clear HK
  clear HEq b6'
  iterate 5 (refine mix_calmDk rfl rfl ?_; go_big_quiet_step (fail); refine wpQuiet_nil ?_)
  have q0 : ∀ p : Kept (fun _ => True) u6, p.v.cell? ⟨gb, 0, none⟩ = some (.int .i64 v1.log) := fun p => p.h.cell trivial (HBk.out.1.cell 0)
  have q1 : ∀ p : Kept (fun _ => True) u6, p.v.cell? ⟨gb, 1, none⟩ = some (.int .i64 v1.next) := fun p => p.h.cell trivial (HBk.out.1.cell 1)
  have q2 : ∀ p : Kept (fun _ => True) u6, p.v.cell? ⟨gb, 2, none⟩ = some (.slice Ab v1.tabs.length cb) := fun p => p.h.cell trivial (HBk.out.1.cell 2)
  have q3 : ∀ p : Kept (fun _ => True) u6, p.v.cell? ⟨gb, 3, none⟩ = some (.int .i64 v1.fl.1) := fun p => p.h.cell trivial (HBk.out.1.cell 3)
  have q4 : ∀ p : Kept (fun _ => True) u6, p.v.cell? ⟨gb, 4, none⟩ = some (.int .i64 v1.fl.2.1) := fun p => p.h.cell trivial (HBk.out.1.cell 4)
  have q5 : ∀ p : Kept (fun _ => True) u6, p.v.cell? ⟨gb, 5, none⟩ = some (.int .i64 v1.fl.2.2) := fun p => p.h.cell trivial (HBk.out.1.cell 5)
  have q6 : ∀ p : Kept (fun _ => True) u6, p.v.cell? ⟨gb, 6, none⟩ = some (.int .i64 v1.fe.1) := fun p => p.h.cell trivial (HBk.out.1.cell 6)
  have q7 : ∀ p : Kept (fun _ => True) u6, p.v.cell? ⟨gb, 7, none⟩ = some (.int .i64 v1.fe.2.1) := fun p => p.h.cell trivial (HBk.out.1.cell 7)
  have q8 : ∀ p : Kept (fun _ => True) u6, p.v.cell? ⟨gb, 8, none⟩ = some (.int .i64 v1.fe.2.2) := fun p => p.h.cell trivial (HBk.out.1.cell 8)
  have q9 : ∀ p : Kept (fun _ => True) u6, p.v.cell? ⟨gb, 9, none⟩ = some (.int .i64 v1.se.1) := fun p => p.h.cell trivial (HBk.out.1.cell 9)
  have q10 : ∀ p : Kept (fun _ => True) u6, p.v.cell? ⟨gb, 10, none⟩ = some (.int .i64 v1.se.2.1) := fun p => p.h.cell trivial (HBk.out.1.cell 10)
  have q11 : ∀ p : Kept (fun _ => True) u6, p.v.cell? ⟨gb, 11, none⟩ = some (.int .i64 v1.se.2.2) := fun p => p.h.cell trivial (HBk.out.1.cell 11)
  have q12 : ∀ p : Kept (fun _ => True) u6, p.v.cell? ⟨gb, 12, none⟩ = some (.bool v1.quar) := fun p => p.h.cell trivial (HBk.out.1.cell 12)
  have t0 : ∀ p : Kept (fun _ => True) u6, p.v.cell? ⟨gm, 0, none⟩ = some (.int .i64 v1.log) := fun p => p.h.cell trivial (H.out.bm.cell 0)
  have t1 : ∀ p : Kept (fun _ => True) u6, p.v.cell? ⟨gm, 1, none⟩ = some (.int .i64 v1.next) := fun p => p.h.cell trivial (H.out.bm.cell 1)
  have t2 : ∀ p : Kept (fun _ => True) u6, p.v.cell? ⟨gm, 2, none⟩ = some (.slice Am v1.tabs.length cm) := fun p => p.h.cell trivial (H.out.bm.cell 2)
  have t3 : ∀ p : Kept (fun _ => True) u6, p.v.cell? ⟨gm, 3, none⟩ = some (.int .i64 v1.fl.1) := fun p => p.h.cell trivial (H.out.bm.cell 3)
  have t4 : ∀ p : Kept (fun _ => True) u6, p.v.cell? ⟨gm, 4, none⟩ = some (.int .i64 v1.fl.2.1) := fun p => p.h.cell trivial (H.out.bm.cell 4)
  have t5 : ∀ p : Kept (fun _ => True) u6, p.v.cell? ⟨gm, 5, none⟩ = some (.int .i64 v1.fl.2.2) := fun p => p.h.cell trivial (H.out.bm.cell 5)
  have t6 : ∀ p : Kept (fun _ => True) u6, p.v.cell? ⟨gm, 6, none⟩ = some (.int .i64 v1.fe.1) := fun p => p.h.cell trivial (H.out.bm.cell 6)
  have t7 : ∀ p : Kept (fun _ => True) u6, p.v.cell? ⟨gm, 7, none⟩ = some (.int .i64 v1.fe.2.1) := fun p => p.h.cell trivial (H.out.bm.cell 7)
  have t8 : ∀ p : Kept (fun _ => True) u6, p.v.cell? ⟨gm, 8, none⟩ = some (.int .i64 v1.fe.2.2) := fun p => p.h.cell trivial (H.out.bm.cell 8)
  have t9 : ∀ p : Kept (fun _ => True) u6, p.v.cell? ⟨gm, 9, none⟩ = some (.int .i64 v1.se.1) := fun p => p.h.cell trivial (H.out.bm.cell 9)
  have t10 : ∀ p : Kept (fun _ => True) u6, p.v.cell? ⟨gm, 10, none⟩ = some (.int .i64 v1.se.2.1) := fun p => p.h.cell trivial (H.out.bm.cell 10)
  have t11 : ∀ p : Kept (fun _ => True) u6, p.v.cell? ⟨gm, 11, none⟩ = some (.int .i64 v1.se.2.2) := fun p => p.h.cell trivial (H.out.bm.cell 11)
  have t12 : ∀ p : Kept (fun _ => True) u6, p.v.cell? ⟨gm, 12, none⟩ = some (.bool v1.quar) := fun p => p.h.cell trivial (H.out.bm.cell 12)
  iterate 2 (refine mix_calmDk rfl rfl ?_; go_big_quiet_step (fail); refine wpQuiet_nil ?_)
  clear q0 q1 q2 q3 q4 q5 q6 q7 q8 q9 q10 q11 q12 t0 t1 t2 t3 t4 t5 t6 t7 t8 t9 t10 t11 t12
  refine mix_loudDk rfl (by kernel_rfl) rfl ?_
  intro K1 hK1
  have HK := Lib.hid hK1
  clear hK1 
  go_wp2_with fail
  refine (law17_mine v1 Ab _ cb u6 HBk.out.2 (by have := HL1.out; omega)).mono ?_
  rintro x u7 ⟨A7, c7, rfl, hc7, R7, b7⟩
  have RR7 := Lib.hid R7
  have b7' := Lib.hid b7
  replace H := Lib.hid (H.out.up b7)
  replace HBk := Lib.hid (And.intro (HBk.out.1.below b7 HBk.out.1.lt) ((HBk.out.2.below b7).more b7.size))
  clear b7
  clear R7 hc7
  go_wp2_with fail
  refine HK.out _ _ (Stand.of_below b7'.out) ?_
  clear HK
  refine mix_loudDk rfl (by kernel_rfl) rfl ?_
  intro K1 hK1
  have HK := Lib.hid hK1
  clear hK1 
  go_wp2_with fail
  refine (ref17_Put v1 A7 _ c7 I1.out u7 RR7.out (by have := HL1.out; omega)).mono ?_
  rintro x u8 ⟨y8, rfl, o8, b8⟩
  have O8 := Lib.hid o8
  have b8' := Lib.hid b8
  replace H := Lib.hid (H.out.up b8)
  replace HBk := Lib.hid (And.intro (HBk.out.1.below b8 HBk.out.1.lt) ((HBk.out.2.below b8).more b8.size))
  clear b8
  clear o8 RR7
  go_wp2_with fail
  refine HK.out _ _ (Stand.of_below b8'.out) ?_
  clear HK
  refine mix_loudDk rfl (by kernel_rfl) rfl ?_
  intro K1 hK1
  have HK := Lib.hid hK1
  clear hK1 
  go_wp2_with fail
  refine (ref17_Put v1 Am _ cm I1.out u8 H.out.rm (by have := HL1.out; omega)).mono ?_
  rintro x u9 ⟨y9, rfl, o9, b9⟩
  have O9 := Lib.hid o9
  replace O8 := Lib.hid (O8.out.below b9)
  have b9' := Lib.hid b9
  replace H := Lib.hid (H.out.up b9)
  replace HBk := Lib.hid (And.intro (HBk.out.1.below b9 HBk.out.1.lt) ((HBk.out.2.below b9).more b9.size))
  clear b9
  clear o9
  go_wp2_with fail
  refine HK.out _ _ (Stand.of_below b9'.out) ?_
  clear HK
  have HEq := Lib.hid (own_Equal O8.out O9.out (by have := LV1.out; omega))
  rw [decide_eq_true rfl] at HEq
  clear O8 O9 b7' b8' b9'
  refine mix_loudDk rfl (by kernel_rfl) rfl ?_
  intro K1 hK1
  have HK := Lib.hid hK1
  clear hK1 
  go_wp2_with fail
  refine (HEq.out).mono ?_
  rintro x u10 ⟨rfl, b10⟩
  have b10' := Lib.hid b10
  replace H := Lib.hid (H.out.up b10)
  replace HBk := Lib.hid (And.intro (HBk.out.1.below b10 HBk.out.1.lt) ((HBk.out.2.below b10).more b10.size))
  clear b10
  go_wp2_with fail
  refine HK.out _ _ (Stand.of_below b10'.out) ?_
  clear HK
  clear HEq b10'
  iterate 2 (refine mix_calmDk rfl rfl ?_; go_big_quiet_step (fail); refine wpQuiet_nil ?_)
  have q0 : ∀ p : Kept (fun _ => True) u10, p.v.cell? ⟨w.heap.size, 0, none⟩ = some (.int .i64 v1.log) := fun p => p.h.cell trivial (H.out.b1.cell 0)
  have q1 : ∀ p : Kept (fun _ => True) u10, p.v.cell? ⟨w.heap.size, 1, none⟩ = some (.int .i64 v1.next) := fun p => p.h.cell trivial (H.out.b1.cell 1)
  have q2 : ∀ p : Kept (fun _ => True) u10, p.v.cell? ⟨w.heap.size, 2, none⟩ = some (.slice A1 n1 c1) := fun p => p.h.cell trivial (H.out.b1.cell 2)
  have q3 : ∀ p : Kept (fun _ => True) u10, p.v.cell? ⟨w.heap.size, 3, none⟩ = some (.int .i64 v1.fl.1) := fun p => p.h.cell trivial (H.out.b1.cell 3)
  have q4 : ∀ p : Kept (fun _ => True) u10, p.v.cell? ⟨w.heap.size, 4, none⟩ = some (.int .i64 v1.fl.2.1) := fun p => p.h.cell trivial (H.out.b1.cell 4)
  have q5 : ∀ p : Kept (fun _ => True) u10, p.v.cell? ⟨w.heap.size, 5, none⟩ = some (.int .i64 v1.fl.2.2) := fun p => p.h.cell trivial (H.out.b1.cell 5)
  have q6 : ∀ p : Kept (fun _ => True) u10, p.v.cell? ⟨w.heap.size, 6, none⟩ = some (.int .i64 v1.fe.1) := fun p => p.h.cell trivial (H.out.b1.cell 6)
  have q7 : ∀ p : Kept (fun _ => True) u10, p.v.cell? ⟨w.heap.size, 7, none⟩ = some (.int .i64 v1.fe.2.1) := fun p => p.h.cell trivial (H.out.b1.cell 7)
  have q8 : ∀ p : Kept (fun _ => True) u10, p.v.cell? ⟨w.heap.size, 8, none⟩ = some (.int .i64 v1.fe.2.2) := fun p => p.h.cell trivial (H.out.b1.cell 8)
  have q9 : ∀ p : Kept (fun _ => True) u10, p.v.cell? ⟨w.heap.size, 9, none⟩ = some (.int .i64 v1.se.1) := fun p => p.h.cell trivial (H.out.b1.cell 9)
  have q10 : ∀ p : Kept (fun _ => True) u10, p.v.cell? ⟨w.heap.size, 10, none⟩ = some (.int .i64 v1.se.2.1) := fun p => p.h.cell trivial (H.out.b1.cell 10)
  have q11 : ∀ p : Kept (fun _ => True) u10, p.v.cell? ⟨w.heap.size, 11, none⟩ = some (.int .i64 v1.se.2.2) := fun p => p.h.cell trivial (H.out.b1.cell 11)
  have q12 : ∀ p : Kept (fun _ => True) u10, p.v.cell? ⟨w.heap.size, 12, none⟩ = some (.bool v1.quar) := fun p => p.h.cell trivial (H.out.b1.cell 12)
  have t0 : ∀ p : Kept (fun _ => True) u10, p.v.cell? ⟨w.heap.size + 1, 0, none⟩ = some (.int .i64 v2.log) := fun p => p.h.cell trivial (H.out.b2.cell 0)
  have t1 : ∀ p : Kept (fun _ => True) u10, p.v.cell? ⟨w.heap.size + 1, 1, none⟩ = some (.int .i64 v2.next) := fun p => p.h.cell trivial (H.out.b2.cell 1)
  have t2 : ∀ p : Kept (fun _ => True) u10, p.v.cell? ⟨w.heap.size + 1, 2, none⟩ = some (.slice A2 n2 c2) := fun p => p.h.cell trivial (H.out.b2.cell 2)
  have t3 : ∀ p : Kept (fun _ => True) u10, p.v.cell? ⟨w.heap.size + 1, 3, none⟩ = some (.int .i64 v2.fl.1) := fun p => p.h.cell trivial (H.out.b2.cell 3)
  have t4 : ∀ p : Kept (fun _ => True) u10, p.v.cell? ⟨w.heap.size + 1, 4, none⟩ = some (.int .i64 v2.fl.2.1) := fun p => p.h.cell trivial (H.out.b2.cell 4)
  have t5 : ∀ p : Kept (fun _ => True) u10, p.v.cell? ⟨w.heap.size + 1, 5, none⟩ = some (.int .i64 v2.fl.2.2) := fun p => p.h.cell trivial (H.out.b2.cell 5)
  have t6 : ∀ p : Kept (fun _ => True) u10, p.v.cell? ⟨w.heap.size + 1, 6, none⟩ = some (.int .i64 v2.fe.1) := fun p => p.h.cell trivial (H.out.b2.cell 6)
  have t7 : ∀ p : Kept (fun _ => True) u10, p.v.cell? ⟨w.heap.size + 1, 7, none⟩ = some (.int .i64 v2.fe.2.1) := fun p => p.h.cell trivial (H.out.b2.cell 7)
  have t8 : ∀ p : Kept (fun _ => True) u10, p.v.cell? ⟨w.heap.size + 1, 8, none⟩ = some (.int .i64 v2.fe.2.2) := fun p => p.h.cell trivial (H.out.b2.cell 8)
  have t9 : ∀ p : Kept (fun _ => True) u10, p.v.cell? ⟨w.heap.size + 1, 9, none⟩ = some (.int .i64 v2.se.1) := fun p => p.h.cell trivial (H.out.b2.cell 9)
  have t10 : ∀ p : Kept (fun _ => True) u10, p.v.cell? ⟨w.heap.size + 1, 10, none⟩ = some (.int .i64 v2.se.2.1) := fun p => p.h.cell trivial (H.out.b2.cell 10)
  have t11 : ∀ p : Kept (fun _ => True) u10, p.v.cell? ⟨w.heap.size + 1, 11, none⟩ = some (.int .i64 v2.se.2.2) := fun p => p.h.cell trivial (H.out.b2.cell 11)
  have t12 : ∀ p : Kept (fun _ => True) u10, p.v.cell? ⟨w.heap.size + 1, 12, none⟩ = some (.bool v2.quar) := fun p => p.h.cell trivial (H.out.b2.cell 12)
  iterate 3 (refine mix_calmDk rfl rfl ?_; go_big_quiet_step (fail); refine wpQuiet_nil ?_)
  clear q0 q1 q2 q3 q4 q5 q6 q7 q8 q9 q10 q11 q12 t0 t1 t2 t3 t4 t5 t6 t7 t8 t9 t10 t11 t12
  have HSm := Lib.hid (verse_Same v1 v2 A1 A2 n1 c1 n2 c2 I1.out I2.out u10 H.out.r1 H.out.r2 (by omega) (by omega))
  rw [HRS.out] at HSm
  refine mix_loudDk rfl (by kernel_rfl) rfl ?_
  intro K1 hK1
  have HK := Lib.hid hK1
  clear hK1 
  go_wp2_with fail
  refine (HSm.out).mono ?_
  rintro x u11 ⟨rfl, b11⟩
  have b11' := Lib.hid b11
  replace H := Lib.hid (H.out.up b11)
  replace HBk := Lib.hid (And.intro (HBk.out.1.below b11 HBk.out.1.lt) ((HBk.out.2.below b11).more b11.size))
  clear b11
  go_wp2_with fail
  refine HK.out _ _ (Stand.of_below b11'.out) ?_
  clear HK
  clear HSm b11'
  iterate 3 (refine mix_calmDk rfl rfl ?_; go_big_quiet_step (fail); refine wpQuiet_nil ?_)
  refine mix_loudDk rfl (by kernel_rfl) rfl ?_
  intro K1 hK1
  have HK := Lib.hid hK1
  clear hK1 
  go_wp2_with fail
  refine (alive17 u11).mono ?_
  rintro x u12 ⟨rfl, b12⟩
  have b12' := Lib.hid b12
  replace H := Lib.hid (H.out.up b12)
  replace HBk := Lib.hid (And.intro (HBk.out.1.below b12 HBk.out.1.lt) ((HBk.out.2.below b12).more b12.size))
  clear b12
  go_wp2_with fail
  refine HK.out _ _ (Stand.of_below b12'.out) ?_
  clear HK
  iterate 1 (refine mix_calmDk rfl rfl ?_; go_big_quiet_step (fail); refine wpQuiet_nil ?_)
  refine mix_endDk ?_
  clear b12'
  go_wp2_with fail
  go_ret
  exact ⟨rfl, H.out.hB⟩
end Go.Proofs.Ytedegdojbhegdaa
