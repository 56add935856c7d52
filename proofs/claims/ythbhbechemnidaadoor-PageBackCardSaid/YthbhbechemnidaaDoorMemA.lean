/- Contracts of mem.Compare and of the law's compare. The plain law of the order of mutations: it is linear. No function of the program is named here, and nothing is assumed. -/
import Derived.Test.YthbhbechemnidaaDoorMutD
namespace Go.Proofs.YthbhbechemnidaaDoor
open Go.RowKit Go.Sort

/-- How two mutations stand in a tree: by their keys, then as mutations. -/
def cmpMem (a b : Mut) : Int := orL [cmpT a.key b.key, cmpM a b]
theorem cmpMem_eq {a b : Mut} (h : a.key.toList = b.key.toList) : cmpMem a b = cmpM a b := by
  have h0 := (cmpT_zero a.key b.key).2 h
  show (if cmpT a.key b.key = 0 then orL [cmpM a b] else cmpT a.key b.key) = cmpM a b
  rw [if_pos h0]
  show (if cmpM a b = 0 then 0 else cmpM a b) = cmpM a b
  by_cases h1 : cmpM a b = 0
  · rw [if_pos h1, h1]
  · rw [if_neg h1]
theorem cmpMem_ne {a b : Mut} (h : a.key.toList ≠ b.key.toList) : cmpMem a b = cmpT a.key b.key := by
  show (if cmpT a.key b.key = 0 then orL [cmpM a b] else cmpT a.key b.key) = cmpT a.key b.key
  rw [if_neg (fun e => h ((cmpT_zero a.key b.key).1 e))]

set_option maxRecDepth 100000 in
set_option maxHeartbeats 4000000 in
theorem mem_Compare (m1 m2 : Mut) (A1 A2 : Option Addr) (n1 c1 n2 c2 : Nat) (w : World) (hr1 : Reads w w.heap.size 3 A1 n1 (m1.ov.flatMap sc)) (hr2 : Reads w w.heap.size 3 A2 n2 (m2.ov.flatMap sc)) (hn1 : n1 ≤ 1000000000) :
    Calls Tryd.prog 98 #[.agg (mutC m1 (.slice A1 n1 c1)), .agg (mutC m2 (.slice A2 n2 c2))] w fun e w' => e = .returned (.int .i64 (cmpMem m1 m2)) ∧ Below w.heap.size w w' := by
  have BK1 := (Blk.new w 35 (mutC m1 (.slice A1 n1 c1))).alloc (.cells (mutC m2 (.slice A2 n2 c2)) 35)
  have BK2 := Blk.new (w.alloc (.cells (mutC m1 (.slice A1 n1 c1)) 35)) 35 (mutC m2 (.slice A2 n2 c2))
  have hB : Below w.heap.size w ((w.alloc (.cells (mutC m1 (.slice A1 n1 c1)) 35)).alloc (.cells (mutC m2 (.slice A2 n2 c2)) 35)) := ((Below.refl _ _).alloc (Nat.le_refl _) _).alloc (by simp) _
  have HR1 := Lib.hid (((hr1.alloc (Nat.le_refl _) (.cells (mutC m1 (.slice A1 n1 c1)) 35)).alloc (by simp) (.cells (mutC m2 (.slice A2 n2 c2)) 35)).more hB.size)
  have HR2 := Lib.hid (((hr2.alloc (Nat.le_refl _) (.cells (mutC m1 (.slice A1 n1 c1)) 35)).alloc (by simp) (.cells (mutC m2 (.slice A2 n2 c2)) 35)).more hB.size)
  simp only [World.size_alloc] at BK2
  clear hr1 hr2
  go_enter Tryd.func98, Tryd.ntmps98
  go_upto_region 1 with fail
  generalize ((w.alloc (.cells (mutC m1 (.slice A1 n1 c1)) 35)).alloc (.cells (mutC m2 (.slice A2 n2 c2)) 35)) = W at *
  have q0 : ∀ p : Kept (fun _ => True) W.drew, p.v.cell? ⟨w.heap.size, 0, none⟩ = some (.int .i64 m1.tab) := fun p => p.h.cell trivial (BK1.drew.cell 0)
  have q1 : ∀ p : Kept (fun _ => True) W.drew, p.v.cell? ⟨w.heap.size, 1, none⟩ = some (.int .i64 m1.kind) := fun p => p.h.cell trivial (BK1.drew.cell 1)
  have q2 : ∀ p : Kept (fun _ => True) W.drew, p.v.cell? ⟨w.heap.size, 2, none⟩ = some (.string m1.key) := fun p => p.h.cell trivial (BK1.drew.cell 2)
  have q3 : ∀ p : Kept (fun _ => True) W.drew, p.v.cell? ⟨w.heap.size, 3, none⟩ = some (.string m1.en) := fun p => p.h.cell trivial (BK1.drew.cell 3)
  have q4 : ∀ p : Kept (fun _ => True) W.drew, p.v.cell? ⟨w.heap.size, 4, none⟩ = some (.string m1.val) := fun p => p.h.cell trivial (BK1.drew.cell 4)
  have q5 : ∀ p : Kept (fun _ => True) W.drew, p.v.cell? ⟨w.heap.size, 5, none⟩ = some (.int .i64 m1.exp) := fun p => p.h.cell trivial (BK1.drew.cell 5)
  have q6 : ∀ p : Kept (fun _ => True) W.drew, p.v.cell? ⟨w.heap.size, 6, none⟩ = some (.int .i64 m1.at_.1) := fun p => p.h.cell trivial (BK1.drew.cell 6)
  have q7 : ∀ p : Kept (fun _ => True) W.drew, p.v.cell? ⟨w.heap.size, 7, none⟩ = some (.int .i64 m1.at_.2.1) := fun p => p.h.cell trivial (BK1.drew.cell 7)
  have q8 : ∀ p : Kept (fun _ => True) W.drew, p.v.cell? ⟨w.heap.size, 8, none⟩ = some (.int .i64 m1.at_.2.2) := fun p => p.h.cell trivial (BK1.drew.cell 8)
  have q9 : ∀ p : Kept (fun _ => True) W.drew, p.v.cell? ⟨w.heap.size, 9, none⟩ = some (.slice A1 n1 c1) := fun p => p.h.cell trivial (BK1.drew.cell 9)
  have t0 : ∀ p : Kept (fun _ => True) W.drew, p.v.cell? ⟨w.heap.size + 1, 0, none⟩ = some (.int .i64 m2.tab) := fun p => p.h.cell trivial (BK2.drew.cell 0)
  have t1 : ∀ p : Kept (fun _ => True) W.drew, p.v.cell? ⟨w.heap.size + 1, 1, none⟩ = some (.int .i64 m2.kind) := fun p => p.h.cell trivial (BK2.drew.cell 1)
  have t2 : ∀ p : Kept (fun _ => True) W.drew, p.v.cell? ⟨w.heap.size + 1, 2, none⟩ = some (.string m2.key) := fun p => p.h.cell trivial (BK2.drew.cell 2)
  have t3 : ∀ p : Kept (fun _ => True) W.drew, p.v.cell? ⟨w.heap.size + 1, 3, none⟩ = some (.string m2.en) := fun p => p.h.cell trivial (BK2.drew.cell 3)
  have t4 : ∀ p : Kept (fun _ => True) W.drew, p.v.cell? ⟨w.heap.size + 1, 4, none⟩ = some (.string m2.val) := fun p => p.h.cell trivial (BK2.drew.cell 4)
  have t5 : ∀ p : Kept (fun _ => True) W.drew, p.v.cell? ⟨w.heap.size + 1, 5, none⟩ = some (.int .i64 m2.exp) := fun p => p.h.cell trivial (BK2.drew.cell 5)
  have t6 : ∀ p : Kept (fun _ => True) W.drew, p.v.cell? ⟨w.heap.size + 1, 6, none⟩ = some (.int .i64 m2.at_.1) := fun p => p.h.cell trivial (BK2.drew.cell 6)
  have t7 : ∀ p : Kept (fun _ => True) W.drew, p.v.cell? ⟨w.heap.size + 1, 7, none⟩ = some (.int .i64 m2.at_.2.1) := fun p => p.h.cell trivial (BK2.drew.cell 7)
  have t8 : ∀ p : Kept (fun _ => True) W.drew, p.v.cell? ⟨w.heap.size + 1, 8, none⟩ = some (.int .i64 m2.at_.2.2) := fun p => p.h.cell trivial (BK2.drew.cell 8)
  have t9 : ∀ p : Kept (fun _ => True) W.drew, p.v.cell? ⟨w.heap.size + 1, 9, none⟩ = some (.slice A2 n2 c2) := fun p => p.h.cell trivial (BK2.drew.cell 9)
  obtain ⟨R1, h1⟩ : ∃ r, cmpT m1.key m2.key = r := ⟨_, rfl⟩
  obtain ⟨R2, h2⟩ : ∃ r, cmpM m1 m2 = r := ⟨_, rfl⟩
  have HM : Hid (cmpMem m1 m2 = orL [R1, R2]) := Lib.hid (by unfold cmpMem; rw [h1, h2])
  have hc1 := fun w => cmp_CompareS m1.key m2.key w
  have hc2 := fun w r1 r2 => mut_Compare m1 m2 A1 A2 n1 c1 n2 c2 w r1 r2 hn1
  rw [h1] at hc1
  rw [h2] at hc2
  have C1 := Lib.hid hc1
  have C2 := Lib.hid hc2
  clear h1 h2 hc1 hc2
  refine wp_region_mixTk (M := []) (fun _ => True) 10 [0, 1, 2, 3, 5, 6, 4, 7, 8, 9] (by kernel_rfl) (by kernel_rfl) ?_
  iterate 6 (refine mix_calmDk rfl rfl ?_; go_big_quiet_step (fail); refine wpQuiet_nil ?_)
  clear q0 q1 q2 q3 q4 q5 q6 q7 q8 q9 t0 t1 t2 t3 t4 t5 t6 t7 t8 t9
  refine mix_loudDk rfl (by kernel_rfl) rfl ?_
  intro K1 hK1
  have HK := Lib.hid hK1
  clear hK1 
  go_wp2_with fail
  refine (C1.out W.drew).mono ?_
  rintro x w2 ⟨rfl, rfl⟩
  clear C1
  go_wp2_with fail
  refine HK.out _ _ (Stand.refl _ _) ?_
  clear HK
  refine mix_loudDk rfl (by kernel_rfl) rfl ?_
  intro K1 hK1
  have HK := Lib.hid hK1
  clear hK1 
  go_wp2_with fail
  refine (C2.out W.drew (HR1.out.drewN 1) (HR2.out.drewN 1)).mono ?_
  rintro x w2 ⟨rfl, b2⟩
  have HB2 := Lib.hid b2
  clear b2 C2
  go_wp2_with fail
  refine HK.out _ _ (Stand.of_below HB2.out) ?_
  clear HK
  refine mix_loudDk rfl (by kernel_rfl) rfl ?_
  intro K1 hK1
  have HK := Lib.hid hK1
  clear hK1 
  go_wp2_with fail
  refine HK.out _ _ ((Stand.refl _ _).alloc _) ?_
  clear HK
  have BO : Blk (w2.alloc (.cells ([R1, R2].map (Value.int .i64)).toArray 3)) w2.heap.size 3 ([R1, R2].map (Value.int .i64)).toArray := Blk.new _ _ _
  have HO := Lib.hid (cmp_Or (w2.alloc (.cells ([R1, R2].map (Value.int .i64)).toArray 3)) w2.heap.size [R1, R2] 2 rfl (ints_cell BO) (by decide))
  rw [← HM.out] at HO
  have hBe : Below w.heap.size w (w2.alloc (.cells ([R1, R2].map (Value.int .i64)).toArray 3)) := ((below_drewN hB 1).trans (HB2.out.mono hB.size)).alloc (Nat.le_trans hB.size HB2.out.size) _
  clear BO HM HB2 HR1 HR2 BK1 BK2 hB
  refine mix_loudDk rfl (by kernel_rfl) rfl ?_
  intro K1 hK1
  have HK := Lib.hid hK1
  clear hK1 
  go_wp2_with fail
  refine (HO.out).mono ?_
  rintro x w3 ⟨rfl, rfl⟩
  go_wp2_with fail
  refine HK.out _ _ (Stand.refl _ _) ?_
  clear HK
  refine mix_endDk ?_
  go_wp2_with fail
  go_ret
  exact ⟨rfl, hBe⟩

set_option maxRecDepth 100000 in
set_option maxHeartbeats 4000000 in
theorem law13_compare (m1 m2 : Mut) (A1 A2 : Option Addr) (n1 c1 n2 c2 : Nat) (w : World) (hr1 : Reads w w.heap.size 3 A1 n1 (m1.ov.flatMap sc)) (hr2 : Reads w w.heap.size 3 A2 n2 (m2.ov.flatMap sc)) (hn1 : n1 ≤ 1000000000) :
    Calls Tryd.prog 60 #[.agg (mutC m1 (.slice A1 n1 c1)), .agg (mutC m2 (.slice A2 n2 c2))] w fun e w' => e = .returned (.int .i64 (cmpMem m1 m2)) ∧ Below w.heap.size w w' := by
  have BK1 := (Blk.new w 35 (mutC m1 (.slice A1 n1 c1))).alloc (.cells (mutC m2 (.slice A2 n2 c2)) 35)
  have BK2 := Blk.new (w.alloc (.cells (mutC m1 (.slice A1 n1 c1)) 35)) 35 (mutC m2 (.slice A2 n2 c2))
  have hB : Below w.heap.size w ((w.alloc (.cells (mutC m1 (.slice A1 n1 c1)) 35)).alloc (.cells (mutC m2 (.slice A2 n2 c2)) 35)) := ((Below.refl _ _).alloc (Nat.le_refl _) _).alloc (by simp) _
  have HR1 := Lib.hid (((hr1.alloc (Nat.le_refl _) (.cells (mutC m1 (.slice A1 n1 c1)) 35)).alloc (by simp) (.cells (mutC m2 (.slice A2 n2 c2)) 35)).more hB.size)
  have HR2 := Lib.hid (((hr2.alloc (Nat.le_refl _) (.cells (mutC m1 (.slice A1 n1 c1)) 35)).alloc (by simp) (.cells (mutC m2 (.slice A2 n2 c2)) 35)).more hB.size)
  simp only [World.size_alloc] at BK2
  clear hr1 hr2
  have q0 : ((w.alloc (.cells (mutC m1 (.slice A1 n1 c1)) 35)).alloc (.cells (mutC m2 (.slice A2 n2 c2)) 35)).cell? ⟨w.heap.size, 0, none⟩ = some (.int .i64 m1.tab) := BK1.cell 0
  have q1 : ((w.alloc (.cells (mutC m1 (.slice A1 n1 c1)) 35)).alloc (.cells (mutC m2 (.slice A2 n2 c2)) 35)).cell? ⟨w.heap.size, 1, none⟩ = some (.int .i64 m1.kind) := BK1.cell 1
  have q2 : ((w.alloc (.cells (mutC m1 (.slice A1 n1 c1)) 35)).alloc (.cells (mutC m2 (.slice A2 n2 c2)) 35)).cell? ⟨w.heap.size, 2, none⟩ = some (.string m1.key) := BK1.cell 2
  have q3 : ((w.alloc (.cells (mutC m1 (.slice A1 n1 c1)) 35)).alloc (.cells (mutC m2 (.slice A2 n2 c2)) 35)).cell? ⟨w.heap.size, 3, none⟩ = some (.string m1.en) := BK1.cell 3
  have q4 : ((w.alloc (.cells (mutC m1 (.slice A1 n1 c1)) 35)).alloc (.cells (mutC m2 (.slice A2 n2 c2)) 35)).cell? ⟨w.heap.size, 4, none⟩ = some (.string m1.val) := BK1.cell 4
  have q5 : ((w.alloc (.cells (mutC m1 (.slice A1 n1 c1)) 35)).alloc (.cells (mutC m2 (.slice A2 n2 c2)) 35)).cell? ⟨w.heap.size, 5, none⟩ = some (.int .i64 m1.exp) := BK1.cell 5
  have q6 : ((w.alloc (.cells (mutC m1 (.slice A1 n1 c1)) 35)).alloc (.cells (mutC m2 (.slice A2 n2 c2)) 35)).cell? ⟨w.heap.size, 6, none⟩ = some (.int .i64 m1.at_.1) := BK1.cell 6
  have q7 : ((w.alloc (.cells (mutC m1 (.slice A1 n1 c1)) 35)).alloc (.cells (mutC m2 (.slice A2 n2 c2)) 35)).cell? ⟨w.heap.size, 7, none⟩ = some (.int .i64 m1.at_.2.1) := BK1.cell 7
  have q8 : ((w.alloc (.cells (mutC m1 (.slice A1 n1 c1)) 35)).alloc (.cells (mutC m2 (.slice A2 n2 c2)) 35)).cell? ⟨w.heap.size, 8, none⟩ = some (.int .i64 m1.at_.2.2) := BK1.cell 8
  have q9 : ((w.alloc (.cells (mutC m1 (.slice A1 n1 c1)) 35)).alloc (.cells (mutC m2 (.slice A2 n2 c2)) 35)).cell? ⟨w.heap.size, 9, none⟩ = some (.slice A1 n1 c1) := BK1.cell 9
  have t0 : ((w.alloc (.cells (mutC m1 (.slice A1 n1 c1)) 35)).alloc (.cells (mutC m2 (.slice A2 n2 c2)) 35)).cell? ⟨w.heap.size + 1, 0, none⟩ = some (.int .i64 m2.tab) := BK2.cell 0
  have t1 : ((w.alloc (.cells (mutC m1 (.slice A1 n1 c1)) 35)).alloc (.cells (mutC m2 (.slice A2 n2 c2)) 35)).cell? ⟨w.heap.size + 1, 1, none⟩ = some (.int .i64 m2.kind) := BK2.cell 1
  have t2 : ((w.alloc (.cells (mutC m1 (.slice A1 n1 c1)) 35)).alloc (.cells (mutC m2 (.slice A2 n2 c2)) 35)).cell? ⟨w.heap.size + 1, 2, none⟩ = some (.string m2.key) := BK2.cell 2
  have t3 : ((w.alloc (.cells (mutC m1 (.slice A1 n1 c1)) 35)).alloc (.cells (mutC m2 (.slice A2 n2 c2)) 35)).cell? ⟨w.heap.size + 1, 3, none⟩ = some (.string m2.en) := BK2.cell 3
  have t4 : ((w.alloc (.cells (mutC m1 (.slice A1 n1 c1)) 35)).alloc (.cells (mutC m2 (.slice A2 n2 c2)) 35)).cell? ⟨w.heap.size + 1, 4, none⟩ = some (.string m2.val) := BK2.cell 4
  have t5 : ((w.alloc (.cells (mutC m1 (.slice A1 n1 c1)) 35)).alloc (.cells (mutC m2 (.slice A2 n2 c2)) 35)).cell? ⟨w.heap.size + 1, 5, none⟩ = some (.int .i64 m2.exp) := BK2.cell 5
  have t6 : ((w.alloc (.cells (mutC m1 (.slice A1 n1 c1)) 35)).alloc (.cells (mutC m2 (.slice A2 n2 c2)) 35)).cell? ⟨w.heap.size + 1, 6, none⟩ = some (.int .i64 m2.at_.1) := BK2.cell 6
  have t7 : ((w.alloc (.cells (mutC m1 (.slice A1 n1 c1)) 35)).alloc (.cells (mutC m2 (.slice A2 n2 c2)) 35)).cell? ⟨w.heap.size + 1, 7, none⟩ = some (.int .i64 m2.at_.2.1) := BK2.cell 7
  have t8 : ((w.alloc (.cells (mutC m1 (.slice A1 n1 c1)) 35)).alloc (.cells (mutC m2 (.slice A2 n2 c2)) 35)).cell? ⟨w.heap.size + 1, 8, none⟩ = some (.int .i64 m2.at_.2.2) := BK2.cell 8
  have t9 : ((w.alloc (.cells (mutC m1 (.slice A1 n1 c1)) 35)).alloc (.cells (mutC m2 (.slice A2 n2 c2)) 35)).cell? ⟨w.heap.size + 1, 9, none⟩ = some (.slice A2 n2 c2) := BK2.cell 9
  by_cases hk : m1.key.toList = m2.key.toList
  · have hne : (m1.key.toList == m2.key.toList) = true := by simp [hk]
    have hne2 : (m1.key.toList != m2.key.toList) = false := by simp [hk]
    rw [cmpMem_eq hk]
    clear hk
    go_enter Tryd.func60, Tryd.ntmps60
    go_wp2_with fail
    refine (ref07_Compare m1 m2 A1 A2 n1 c1 n2 c2 _ HR1.out HR2.out hn1).mono ?_
    rintro x w2 ⟨rfl, b2⟩
    go_wp2_with fail
    go_ret
    exact ⟨rfl, hB.trans (b2.mono hB.size)⟩
  · have hne : (m1.key.toList == m2.key.toList) = false := by simp [hk]
    have hne2 : (m1.key.toList != m2.key.toList) = true := by simp [hk]
    rw [cmpMem_ne hk]
    clear hk
    go_enter Tryd.func60, Tryd.ntmps60
    go_wp2_with fail
    refine (ref07_Text m1.key m2.key _).mono ?_
    rintro x w2 ⟨rfl, rfl⟩
    go_wp2_with fail
    go_ret
    exact ⟨rfl, hB⟩
end Go.Proofs.YthbhbechemnidaaDoor

namespace Go.Proofs.YthbhbechemnidaaDoor
open Go.RowKit Go.Sort

structure Cmp {α : Type} (f : α → α → Int) : Prop where
  anti : ∀ a b, f b a = - f a b
  tr : ∀ a b c, f a b ≤ 0 → f b c ≤ 0 → f a c ≤ 0
section
variable {α β : Type} {f g : α → α → Int}
theorem Cmp.zero (h : Cmp f) {a b c : α} (h1 : f a b ≤ 0) (h2 : f b c ≤ 0) (h3 : f a c = 0) : f a b = 0 ∧ f b c = 0 := by
  have e1 := h.anti a c
  have e2 := h.tr b c a h2 (by omega)
  have e3 := h.tr c a b (by omega) h1
  have e4 := h.anti a b
  have e5 := h.anti b c
  omega
theorem Cmp.lex (hf : Cmp f) (hg : Cmp g) : Cmp (fun a b => if f a b = 0 then g a b else f a b) where
  anti a b := by
    have h1 := hf.anti a b
    have h2 := hg.anti a b
    split <;> split <;> omega
  tr a b c := by
    intro h1 h2
    have k1 : f a b ≤ 0 := by split at h1 <;> omega
    have k2 : f b c ≤ 0 := by split at h2 <;> omega
    have k3 := hf.tr a b c k1 k2
    by_cases h0 : f a c = 0
    · obtain ⟨z1, z2⟩ := hf.zero k1 k2 h0
      rw [if_pos h0]
      rw [if_pos z1] at h1
      rw [if_pos z2] at h2
      exact hg.tr a b c h1 h2
    · rw [if_neg h0]
      exact k3
theorem Cmp.by_ (hf : Cmp f) (p : β → α) : Cmp (fun a b => f (p a) (p b)) := ⟨fun _ _ => hf.anti _ _, fun _ _ _ h1 h2 => hf.tr _ _ _ h1 h2⟩
theorem Cmp.none_ : Cmp (fun _ _ : α => 0) := ⟨fun _ _ => rfl, fun _ _ _ _ _ => Int.le_refl _⟩
end
theorem cmp_I : Cmp cmpI where
  anti a b := by unfold cmpI; split <;> split <;> omega
  tr a b c := by
    unfold cmpI
    intro h1 h2
    split at h1 <;> split at h2 <;> split <;> first | omega | (split <;> omega)
theorem cmpT_le (a b : ByteArray) : cmpT a b ≤ 0 ↔ a.toList ≤ b.toList := by
  rcases cmpT_cases a b with ⟨h, e⟩ | ⟨h, h2, e⟩ | ⟨h, h2, e⟩
  · rw [bytesLess_eq] at h
    have h := of_decide_eq_true h
    exact ⟨fun _ => List.le_of_lt h, fun _ => by omega⟩
  · rw [bytesLess_eq] at h
    have h := of_decide_eq_false h
    rw [beq_eq_false_iff_ne] at h2
    refine ⟨fun h9 => by omega, fun h9 => ?_⟩
    exact absurd (List.le_antisymm h9 (List.not_lt.1 h)) h2
  · have h2 := eq_of_beq h2
    rw [h2]
    exact ⟨fun _ => List.le_refl _, fun _ => by omega⟩
theorem cmpT_lt (a b : ByteArray) : cmpT a b < 0 ↔ a.toList < b.toList := by
  rcases cmpT_cases a b with ⟨h, e⟩ | ⟨h, h2, e⟩ | ⟨h, h2, e⟩
  · rw [bytesLess_eq] at h
    exact ⟨fun _ => of_decide_eq_true h, fun _ => by omega⟩
  · rw [bytesLess_eq] at h
    exact ⟨fun h9 => by omega, fun h9 => absurd h9 (of_decide_eq_false h)⟩
  · rw [bytesLess_eq] at h
    exact ⟨fun h9 => by omega, fun h9 => absurd h9 (of_decide_eq_false h)⟩
theorem cmp_T : Cmp cmpT where
  anti a b := by
    rcases cmpT_cases a b with ⟨h, e⟩ | ⟨h, h2, e⟩ | ⟨h, h2, e⟩
    · have h1 : ¬ cmpT b a ≤ 0 := fun h9 => by
        have := (cmpT_le b a).1 h9
        rw [bytesLess_eq] at h
        exact absurd (of_decide_eq_true h) (List.not_lt.2 this)
      rcases cmpT_cases b a with ⟨_, e2⟩ | ⟨_, _, e2⟩ | ⟨_, _, e2⟩ <;> omega
    · have h1 : cmpT b a < 0 := (cmpT_lt b a).2 (by
        rw [bytesLess_eq] at h
        rw [beq_eq_false_iff_ne] at h2
        rcases Classical.em (b.toList < a.toList) with h9 | h9
        · exact h9
        · exact absurd (List.le_antisymm (List.not_lt.1 h9) (List.not_lt.1 (of_decide_eq_false h))) h2)
      rcases cmpT_cases b a with ⟨_, e2⟩ | ⟨_, _, e2⟩ | ⟨_, _, e2⟩ <;> omega
    · have h2 := eq_of_beq h2
      rw [(cmpT_zero b a).2 h2.symm, e]
      rfl
  tr a b c h1 h2 := (cmpT_le a c).2 (List.le_trans ((cmpT_le a b).1 h1) ((cmpT_le b c).1 h2))
theorem cmp_3 : Cmp cmp3 := by
  have h := (cmp_I.by_ (fun s : Int × Int × Int => s.1)).lex ((cmp_I.by_ (fun s : Int × Int × Int => s.2.1)).lex (cmp_I.by_ (fun s : Int × Int × Int => s.2.2)))
  refine ⟨fun a b => ?_, fun a b c => ?_⟩
  · have := h.anti a b
    unfold cmp3 cmpS or3
    exact this
  · have := h.tr a b c
    unfold cmp3 cmpS or3
    exact this
theorem cmpR_anti : ∀ a b, cmpR b a = - cmpR a b
  | [], [] => rfl
  | [], _ :: _ => rfl
  | _ :: _, [] => rfl
  | a :: x, b :: y => by
    show (if cmp3 b a = 0 then cmpR y x else cmp3 b a) = - (if cmp3 a b = 0 then cmpR x y else cmp3 a b)
    have h1 := cmp_3.anti a b
    have h2 := cmpR_anti x y
    split <;> split <;> omega
theorem cmpR_tr : ∀ a b c, cmpR a b ≤ 0 → cmpR b c ≤ 0 → cmpR a c ≤ 0
  | [], _, [] => fun _ _ => by decide
  | [], _, _ :: _ => fun _ _ => by show (-1 : Int) ≤ 0; decide
  | _ :: _, [], _ => fun h _ => absurd h (by show ¬ (1 : Int) ≤ 0; decide)
  | _ :: _, _ :: _, [] => fun _ h => absurd h (by show ¬ (1 : Int) ≤ 0; decide)
  | a :: x, b :: y, c :: z => by
    show (if cmp3 a b = 0 then cmpR x y else cmp3 a b) ≤ 0 → (if cmp3 b c = 0 then cmpR y z else cmp3 b c) ≤ 0 → (if cmp3 a c = 0 then cmpR x z else cmp3 a c) ≤ 0
    intro h1 h2
    have k1 : cmp3 a b ≤ 0 := by split at h1 <;> omega
    have k2 : cmp3 b c ≤ 0 := by split at h2 <;> omega
    have k3 := cmp_3.tr a b c k1 k2
    by_cases h0 : cmp3 a c = 0
    · obtain ⟨z1, z2⟩ := cmp_3.zero k1 k2 h0
      rw [if_pos h0]
      rw [if_pos z1] at h1
      rw [if_pos z2] at h2
      exact cmpR_tr x y z h1 h2
    · rw [if_neg h0]
      exact k3
theorem cmp_R : Cmp cmpR := ⟨cmpR_anti, cmpR_tr⟩
theorem cmp_M : Cmp cmpM :=
  (cmp_3.by_ Mut.at_).lex ((cmp_I.by_ Mut.tab).lex ((cmp_I.by_ Mut.kind).lex ((cmp_T.by_ Mut.key).lex ((cmp_T.by_ Mut.en).lex ((cmp_T.by_ Mut.val).lex ((cmp_I.by_ Mut.exp).lex ((cmp_R.by_ Mut.ov).lex Cmp.none_)))))))
theorem cmp_Mem : Cmp cmpMem := (cmp_T.by_ Mut.key).lex (cmp_M.lex Cmp.none_)

/-- A row in a tree's order, each once. -/
def SortM (l : List Mut) : Prop := l.Pairwise fun a b => cmpMem a b < 0
theorem lt_tr {a b c : Mut} (h1 : cmpMem a b < 0) (h2 : cmpMem b c ≤ 0) : cmpMem a c < 0 := by
  have h3 := cmp_Mem.tr a b c (by omega) h2
  rcases Int.lt_or_eq_of_le h3 with h | h
  · exact h
  · have := (cmp_Mem.zero (by omega) h2 h).1
    omega
end Go.Proofs.YthbhbechemnidaaDoor
