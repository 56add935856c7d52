/- Contracts of mem.Compare and of the law's compare. -/
import Derived.Test.YthbhbechemnidaaDoorMutD
namespace Go.Proofs.YthbhbechemnidaaDoor
open Go.RowKit Go.Sort

/-- How two mutations stand in a tree: by their keys, then as mutations. -/
def cmpMem (a b : Mut) : Int := orL [cmpT a.key b.key, cmpM a b]
theorem cmpMem_eq {a b : Mut} (h : a.key.toList = b.key.toList) : cmpMem a b = cmpM a b := by
  have h0 := (cmpT_zero a.key b.key).2 h
  show (if cmpT a.key b.key = 0 then orL [cmpM a b] else cmpT a.key b.key) = cmpM a b
  rw [if_pos h0]
  show (if cmpM a b = 0 then 0 else cmpM a b) = cmpM a b
  by_cases h1 : cmpM a b = 0
  · rw [if_pos h1, h1]
  · rw [if_neg h1]
theorem cmpMem_ne {a b : Mut} (h : a.key.toList ≠ b.key.toList) : cmpMem a b = cmpT a.key b.key := by
  show (if cmpT a.key b.key = 0 then orL [cmpM a b] else cmpT a.key b.key) = cmpT a.key b.key
  rw [if_neg (fun e => h ((cmpT_zero a.key b.key).1 e))]

set_option maxRecDepth 100000 in
set_option maxHeartbeats 4000000 in
theorem mem_Compare (m1 m2 : Mut) (A1 A2 : Option Addr) (n1 c1 n2 c2 : Nat) (w : World) (hr1 : Reads w w.heap.size 3 A1 n1 (m1.ov.flatMap sc)) (hr2 : Reads w w.heap.size 3 A2 n2 (m2.ov.flatMap sc)) (hn1 : n1 ≤ 1000000000) :
    Calls Tryd.prog 98 #[.agg (mutC m1 (.slice A1 n1 c1)), .agg (mutC m2 (.slice A2 n2 c2))] w fun e w' => e = .returned (.int .i64 (cmpMem m1 m2)) ∧ Below w.heap.size w w' := by
  have BK1 := (Blk.new w 35 (mutC m1 (.slice A1 n1 c1))).alloc (.cells (mutC m2 (.slice A2 n2 c2)) 35)
  have BK2 := Blk.new (w.alloc (.cells (mutC m1 (.slice A1 n1 c1)) 35)) 35 (mutC m2 (.slice A2 n2 c2))
  have hB : Below w.heap.size w ((w.alloc (.cells (mutC m1 (.slice A1 n1 c1)) 35)).alloc (.cells (mutC m2 (.slice A2 n2 c2)) 35)) := ((Below.refl _ _).alloc (Nat.le_refl _) _).alloc (by simp) _
  have HR1 := Lib.hid (((hr1.alloc (Nat.le_refl _) (.cells (mutC m1 (.slice A1 n1 c1)) 35)).alloc (by simp) (.cells (mutC m2 (.slice A2 n2 c2)) 35)).more hB.size)
  have HR2 := Lib.hid (((hr2.alloc (Nat.le_refl _) (.cells (mutC m1 (.slice A1 n1 c1)) 35)).alloc (by simp) (.cells (mutC m2 (.slice A2 n2 c2)) 35)).more hB.size)
  simp only [World.size_alloc] at BK2
  clear hr1 hr2
  go_enter Tryd.func98, Tryd.ntmps98
  go_upto_region 1 with fail
  generalize ((w.alloc (.cells (mutC m1 (.slice A1 n1 c1)) 35)).alloc (.cells (mutC m2 (.slice A2 n2 c2)) 35)) = W at *
  have q0 : ∀ p : Kept (fun _ => True) W.drew, p.v.cell? ⟨w.heap.size, 0, none⟩ = some (.int .i64 m1.tab) := fun p => p.h.cell trivial (BK1.drew.cell 0)
  have q1 : ∀ p : Kept (fun _ => True) W.drew, p.v.cell? ⟨w.heap.size, 1, none⟩ = some (.int .i64 m1.kind) := fun p => p.h.cell trivial (BK1.drew.cell 1)
  have q2 : ∀ p : Kept (fun _ => True) W.drew, p.v.cell? ⟨w.heap.size, 2, none⟩ = some (.string m1.key) := fun p => p.h.cell trivial (BK1.drew.cell 2)
  have q3 : ∀ p : Kept (fun _ => True) W.drew, p.v.cell? ⟨w.heap.size, 3, none⟩ = some (.string m1.en) := fun p => p.h.cell trivial (BK1.drew.cell 3)
  have q4 : ∀ p : Kept (fun _ => True) W.drew, p.v.cell? ⟨w.heap.size, 4, none⟩ = some (.string m1.val) := fun p => p.h.cell trivial (BK1.drew.cell 4)
  have q5 : ∀ p : Kept (fun _ => True) W.drew, p.v.cell? ⟨w.heap.size, 5, none⟩ = some (.int .i64 m1.exp) := fun p => p.h.cell trivial (BK1.drew.cell 5)
  have q6 : ∀ p : Kept (fun _ => True) W.drew, p.v.cell? ⟨w.heap.size, 6, none⟩ = some (.int .i64 m1.at_.1) := fun p => p.h.cell trivial (BK1.drew.cell 6)
  have q7 : ∀ p : Kept (fun _ => True) W.drew, p.v.cell? ⟨w.heap.size, 7, none⟩ = some (.int .i64 m1.at_.2.1) := fun p => p.h.cell trivial (BK1.drew.cell 7)
  have q8 : ∀ p : Kept (fun _ => True) W.drew, p.v.cell? ⟨w.heap.size, 8, none⟩ = some (.int .i64 m1.at_.2.2) := fun p => p.h.cell trivial (BK1.drew.cell 8)
  have q9 : ∀ p : Kept (fun _ => True) W.drew, p.v.cell? ⟨w.heap.size, 9, none⟩ = some (.slice A1 n1 c1) := fun p => p.h.cell trivial (BK1.drew.cell 9)
  have t0 : ∀ p : Kept (fun _ => True) W.drew, p.v.cell? ⟨w.heap.size + 1, 0, none⟩ = some (.int .i64 m2.tab) := fun p => p.h.cell trivial (BK2.drew.cell 0)
  have t1 : ∀ p : Kept (fun _ => True) W.drew, p.v.cell? ⟨w.heap.size + 1, 1, none⟩ = some (.int .i64 m2.kind) := fun p => p.h.cell trivial (BK2.drew.cell 1)
  have t2 : ∀ p : Kept (fun _ => True) W.drew, p.v.cell? ⟨w.heap.size + 1, 2, none⟩ = some (.string m2.key) := fun p => p.h.cell trivial (BK2.drew.cell 2)
  have t3 : ∀ p : Kept (fun _ => True) W.drew, p.v.cell? ⟨w.heap.size + 1, 3, none⟩ = some (.string m2.en) := fun p => p.h.cell trivial (BK2.drew.cell 3)
  have t4 : ∀ p : Kept (fun _ => True) W.drew, p.v.cell? ⟨w.heap.size + 1, 4, none⟩ = some (.string m2.val) := fun p => p.h.cell trivial (BK2.drew.cell 4)
  have t5 : ∀ p : Kept (fun _ => True) W.drew, p.v.cell? ⟨w.heap.size + 1, 5, none⟩ = some (.int .i64 m2.exp) := fun p => p.h.cell trivial (BK2.drew.cell 5)
  have t6 : ∀ p : Kept (fun _ => True) W.drew, p.v.cell? ⟨w.heap.size + 1, 6, none⟩ = some (.int .i64 m2.at_.1) := fun p => p.h.cell trivial (BK2.drew.cell 6)
  have t7 : ∀ p : Kept (fun _ => True) W.drew, p.v.cell? ⟨w.heap.size + 1, 7, none⟩ = some (.int .i64 m2.at_.2.1) := fun p => p.h.cell trivial (BK2.drew.cell 7)
  have t8 : ∀ p : Kept (fun _ => True) W.drew, p.v.cell? ⟨w.heap.size + 1, 8, none⟩ = some (.int .i64 m2.at_.2.2) := fun p => p.h.cell trivial (BK2.drew.cell 8)
  have t9 : ∀ p : Kept (fun _ => True) W.drew, p.v.cell? ⟨w.heap.size + 1, 9, none⟩ = some (.slice A2 n2 c2) := fun p => p.h.cell trivial (BK2.drew.cell 9)
  obtain ⟨R1, h1⟩ : ∃ r, cmpT m1.key m2.key = r := ⟨_, rfl⟩
  obtain ⟨R2, h2⟩ : ∃ r, cmpM m1 m2 = r := ⟨_, rfl⟩
  have HM : Hid (cmpMem m1 m2 = orL [R1, R2]) := Lib.hid (by unfold cmpMem; rw [h1, h2])
  have hc1 := fun w => cmp_CompareS m1.key m2.key w
  have hc2 := fun w r1 r2 => mut_Compare m1 m2 A1 A2 n1 c1 n2 c2 w r1 r2 hn1
  rw [h1] at hc1
  rw [h2] at hc2
  have C1 := Lib.hid hc1
  have C2 := Lib.hid hc2
  clear h1 h2 hc1 hc2
  refine wp_region_mixTk (M := []) (fun _ => True) 10 [0, 1, 2, 3, 5, 6, 4, 7, 8, 9] (by kernel_rfl) (by kernel_rfl) ?_
  iterate 6 (refine mix_calmDk rfl rfl ?_; go_big_quiet_step (fail); refine wpQuiet_nil ?_)
  clear q0 q1 q2 q3 q4 q5 q6 q7 q8 q9 t0 t1 t2 t3 t4 t5 t6 t7 t8 t9
  refine mix_loudDk rfl (by kernel_rfl) rfl ?_
  intro K1 hK1
  have HK := Lib.hid hK1
  clear hK1 
  go_wp2_with fail
  refine (C1.out W.drew).mono ?_
  rintro x w2 ⟨rfl, rfl⟩
  clear C1
  go_wp2_with fail
  refine HK.out _ _ (Stand.refl _ _) ?_
  clear HK
  refine mix_loudDk rfl (by kernel_rfl) rfl ?_
  intro K1 hK1
  have HK := Lib.hid hK1
  clear hK1 
  go_wp2_with fail
  refine (C2.out W.drew (HR1.out.drewN 1) (HR2.out.drewN 1)).mono ?_
  rintro x w2 ⟨rfl, b2⟩
  have HB2 := Lib.hid b2
  clear b2 C2
  go_wp2_with fail
  refine HK.out _ _ (Stand.of_below HB2.out) ?_
  clear HK
  refine mix_loudDk rfl (by kernel_rfl) rfl ?_
  intro K1 hK1
  have HK := Lib.hid hK1
  clear hK1 
  go_wp2_with fail
  refine HK.out _ _ ((Stand.refl _ _).alloc _) ?_
  clear HK
  have BO : Blk (w2.alloc (.cells ([R1, R2].map (Value.int .i64)).toArray 3)) w2.heap.size 3 ([R1, R2].map (Value.int .i64)).toArray := Blk.new _ _ _
  have HO := Lib.hid (cmp_Or (w2.alloc (.cells ([R1, R2].map (Value.int .i64)).toArray 3)) w2.heap.size [R1, R2] 2 rfl (ints_cell BO) (by decide))
  rw [← HM.out] at HO
  have hBe : Below w.heap.size w (w2.alloc (.cells ([R1, R2].map (Value.int .i64)).toArray 3)) := ((below_drewN hB 1).trans (HB2.out.mono hB.size)).alloc (Nat.le_trans hB.size HB2.out.size) _
  clear BO HM HB2 HR1 HR2 BK1 BK2 hB
  refine mix_loudDk rfl (by kernel_rfl) rfl ?_
  intro K1 hK1
  have HK := Lib.hid hK1
  clear hK1 
  go_wp2_with fail
  refine (HO.out).mono ?_
  rintro x w3 ⟨rfl, rfl⟩
  go_wp2_with fail
  refine HK.out _ _ (Stand.refl _ _) ?_
  clear HK
  refine mix_endDk ?_
  go_wp2_with fail
  go_ret
  exact ⟨rfl, hBe⟩

set_option maxRecDepth 100000 in
set_option maxHeartbeats 4000000 in
theorem law13_compare (m1 m2 : Mut) (A1 A2 : Option Addr) (n1 c1 n2 c2 : Nat) (w : World) (hr1 : Reads w w.heap.size 3 A1 n1 (m1.ov.flatMap sc)) (hr2 : Reads w w.heap.size 3 A2 n2 (m2.ov.flatMap sc)) (hn1 : n1 ≤ 1000000000) :
    Calls Tryd.prog 60 #[.agg (mutC m1 (.slice A1 n1 c1)), .agg (mutC m2 (.slice A2 n2 c2))] w fun e w' => e = .returned (.int .i64 (cmpMem m1 m2)) ∧ Below w.heap.size w w' := by
  have BK1 := (Blk.new w 35 (mutC m1 (.slice A1 n1 c1))).alloc (.cells (mutC m2 (.slice A2 n2 c2)) 35)
  have BK2 := Blk.new (w.alloc (.cells (mutC m1 (.slice A1 n1 c1)) 35)) 35 (mutC m2 (.slice A2 n2 c2))
  have hB : Below w.heap.size w ((w.alloc (.cells (mutC m1 (.slice A1 n1 c1)) 35)).alloc (.cells (mutC m2 (.slice A2 n2 c2)) 35)) := ((Below.refl _ _).alloc (Nat.le_refl _) _).alloc (by simp) _
  have HR1 := Lib.hid (((hr1.alloc (Nat.le_refl _) (.cells (mutC m1 (.slice A1 n1 c1)) 35)).alloc (by simp) (.cells (mutC m2 (.slice A2 n2 c2)) 35)).more hB.size)
  have HR2 := Lib.hid (((hr2.alloc (Nat.le_refl _) (.cells (mutC m1 (.slice A1 n1 c1)) 35)).alloc (by simp) (.cells (mutC m2 (.slice A2 n2 c2)) 35)).more hB.size)
  simp only [World.size_alloc] at BK2
  clear hr1 hr2
  have q0 : ((w.alloc (.cells (mutC m1 (.slice A1 n1 c1)) 35)).alloc (.cells (mutC m2 (.slice A2 n2 c2)) 35)).cell? ⟨w.heap.size, 0, none⟩ = some (.int .i64 m1.tab) := BK1.cell 0
  have q1 : ((w.alloc (.cells (mutC m1 (.slice A1 n1 c1)) 35)).alloc (.cells (mutC m2 (.slice A2 n2 c2)) 35)).cell? ⟨w.heap.size, 1, none⟩ = some (.int .i64 m1.kind) := BK1.cell 1
  have q2 : ((w.alloc (.cells (mutC m1 (.slice A1 n1 c1)) 35)).alloc (.cells (mutC m2 (.slice A2 n2 c2)) 35)).cell? ⟨w.heap.size, 2, none⟩ = some (.string m1.key) := BK1.cell 2
  have q3 : ((w.alloc (.cells (mutC m1 (.slice A1 n1 c1)) 35)).alloc (.cells (mutC m2 (.slice A2 n2 c2)) 35)).cell? ⟨w.heap.size, 3, none⟩ = some (.string m1.en) := BK1.cell 3
  have q4 : ((w.alloc (.cells (mutC m1 (.slice A1 n1 c1)) 35)).alloc (.cells (mutC m2 (.slice A2 n2 c2)) 35)).cell? ⟨w.heap.size, 4, none⟩ = some (.string m1.val) := BK1.cell 4
  have q5 : ((w.alloc (.cells (mutC m1 (.slice A1 n1 c1)) 35)).alloc (.cells (mutC m2 (.slice A2 n2 c2)) 35)).cell? ⟨w.heap.size, 5, none⟩ = some (.int .i64 m1.exp) := BK1.cell 5
  have q6 : ((w.alloc (.cells (mutC m1 (.slice A1 n1 c1)) 35)).alloc (.cells (mutC m2 (.slice A2 n2 c2)) 35)).cell? ⟨w.heap.size, 6, none⟩ = some (.int .i64 m1.at_.1) := BK1.cell 6
  have q7 : ((w.alloc (.cells (mutC m1 (.slice A1 n1 c1)) 35)).alloc (.cells (mutC m2 (.slice A2 n2 c2)) 35)).cell? ⟨w.heap.size, 7, none⟩ = some (.int .i64 m1.at_.2.1) := BK1.cell 7
  have q8 : ((w.alloc (.cells (mutC m1 (.slice A1 n1 c1)) 35)).alloc (.cells (mutC m2 (.slice A2 n2 c2)) 35)).cell? ⟨w.heap.size, 8, none⟩ = some (.int .i64 m1.at_.2.2) := BK1.cell 8
  have q9 : ((w.alloc (.cells (mutC m1 (.slice A1 n1 c1)) 35)).alloc (.cells (mutC m2 (.slice A2 n2 c2)) 35)).cell? ⟨w.heap.size, 9, none⟩ = some (.slice A1 n1 c1) := BK1.cell 9
  have t0 : ((w.alloc (.cells (mutC m1 (.slice A1 n1 c1)) 35)).alloc (.cells (mutC m2 (.slice A2 n2 c2)) 35)).cell? ⟨w.heap.size + 1, 0, none⟩ = some (.int .i64 m2.tab) := BK2.cell 0
  have t1 : ((w.alloc (.cells (mutC m1 (.slice A1 n1 c1)) 35)).alloc (.cells (mutC m2 (.slice A2 n2 c2)) 35)).cell? ⟨w.heap.size + 1, 1, none⟩ = some (.int .i64 m2.kind) := BK2.cell 1
  have t2 : ((w.alloc (.cells (mutC m1 (.slice A1 n1 c1)) 35)).alloc (.cells (mutC m2 (.slice A2 n2 c2)) 35)).cell? ⟨w.heap.size + 1, 2, none⟩ = some (.string m2.key) := BK2.cell 2
  have t3 : ((w.alloc (.cells (mutC m1 (.slice A1 n1 c1)) 35)).alloc (.cells (mutC m2 (.slice A2 n2 c2)) 35)).cell? ⟨w.heap.size + 1, 3, none⟩ = some (.string m2.en) := BK2.cell 3
  have t4 : ((w.alloc (.cells (mutC m1 (.slice A1 n1 c1)) 35)).alloc (.cells (mutC m2 (.slice A2 n2 c2)) 35)).cell? ⟨w.heap.size + 1, 4, none⟩ = some (.string m2.val) := BK2.cell 4
  have t5 : ((w.alloc (.cells (mutC m1 (.slice A1 n1 c1)) 35)).alloc (.cells (mutC m2 (.slice A2 n2 c2)) 35)).cell? ⟨w.heap.size + 1, 5, none⟩ = some (.int .i64 m2.exp) := BK2.cell 5
  have t6 : ((w.alloc (.cells (mutC m1 (.slice A1 n1 c1)) 35)).alloc (.cells (mutC m2 (.slice A2 n2 c2)) 35)).cell? ⟨w.heap.size + 1, 6, none⟩ = some (.int .i64 m2.at_.1) := BK2.cell 6
  have t7 : ((w.alloc (.cells (mutC m1 (.slice A1 n1 c1)) 35)).alloc (.cells (mutC m2 (.slice A2 n2 c2)) 35)).cell? ⟨w.heap.size + 1, 7, none⟩ = some (.int .i64 m2.at_.2.1) := BK2.cell 7
  have t8 : ((w.alloc (.cells (mutC m1 (.slice A1 n1 c1)) 35)).alloc (.cells (mutC m2 (.slice A2 n2 c2)) 35)).cell? ⟨w.heap.size + 1, 8, none⟩ = some (.int .i64 m2.at_.2.2) := BK2.cell 8
  have t9 : ((w.alloc (.cells (mutC m1 (.slice A1 n1 c1)) 35)).alloc (.cells (mutC m2 (.slice A2 n2 c2)) 35)).cell? ⟨w.heap.size + 1, 9, none⟩ = some (.slice A2 n2 c2) := BK2.cell 9
  by_cases hk : m1.key.toList = m2.key.toList
  · have hne : (m1.key.toList == m2.key.toList) = true := by simp [hk]
    have hne2 : (m1.key.toList != m2.key.toList) = false := by simp [hk]
    rw [cmpMem_eq hk]
    clear hk
    go_enter Tryd.func60, Tryd.ntmps60
    go_wp2_with fail
    refine (ref07_Compare m1 m2 A1 A2 n1 c1 n2 c2 _ HR1.out HR2.out hn1).mono ?_
    rintro x w2 ⟨rfl, b2⟩
    go_wp2_with fail
    go_ret
    exact ⟨rfl, hB.trans (b2.mono hB.size)⟩
  · have hne : (m1.key.toList == m2.key.toList) = false := by simp [hk]
    have hne2 : (m1.key.toList != m2.key.toList) = true := by simp [hk]
    rw [cmpMem_ne hk]
    clear hk
    go_enter Tryd.func60, Tryd.ntmps60
    go_wp2_with fail
    refine (ref07_Text m1.key m2.key _).mono ?_
    rintro x w2 ⟨rfl, rfl⟩
    go_wp2_with fail
    go_ret
    exact ⟨rfl, hB⟩
end Go.Proofs.YthbhbechemnidaaDoor
