/- The walk of the law MemCompares: it returns true, and nothing that was there ahead of the call has turned. -/
import Derived.Test.YthbhbechemnidaaMemL
import Derived.Test.YthbhbechemnidaaOpenMut
namespace Go.Proofs.Ythbhbechemnidaa
open Go.RowKit Go.Sort

/-- What stands behind a region's operations. -/
def KB (W w' : World) : Prop := Below W.heap.size W w'
theorem KB.drew (W : World) : KB W W.drew := below_drewN (Below.refl W.heap.size W) 1
theorem KB.alloc {W w' : World} (h : KB W w') (o : Obj) : KB W (w'.alloc o) := Below.alloc h h.size o
theorem KB.then_ {W w' w'' : World} (h : KB W w') (b : Below w'.heap.size w' w'') : KB W w'' := Below.trans h (b.mono h.size)
theorem KB.cell {W w' : World} (h : KB W w') {p : Addr} {v : Value} (q : W.cell? p = some v) : w'.cell? p = some v := (World.cell?_of_block (h.block p.block (block_lt_of_cell q))).trans q
theorem reads_two {w' : World} {g : Nat} {e1 e2 : MutS} {cs : Array Value} (hcs : cs = (mutL e1 ++ mutL e2).toArray) (hb : Blk w' g 33 cs) : Reads w' w'.heap.size 10 (some ⟨g, 0, none⟩) 2 ([e1, e2].flatMap mutL) := by
  subst hcs
  refine ⟨rfl, fun _ => ⟨_, rfl, hb.lt, fun j u hu => ?_⟩⟩
  have := hb.cell j
  rw [add_lit, Nat.zero_add, this]
  simpa using hu
/-- The two mutations' blocks, as they came in. -/
structure Held2 (w : World) (c1 c2 : Array Value) (wr : World) : Prop where
  b1 : Blk wr w.heap.size 33 c1
  b2 : Blk wr (w.heap.size + 1) 33 c2
  b : Below w.heap.size w wr

set_option maxRecDepth 100000 in
set_option maxHeartbeats 8000000 in
theorem mem_compares_walk (w : World) (m1 : Mut) (A1 : Option Addr) (n1 c1 : Nat) (_ : n1 ≤ c1) (_ : c1 ≤ maxLen) (_ : A1 = none → c1 = 0) (hr1 : Reads w w.heap.size 3 A1 n1 (m1.ov.flatMap sc)) (_ : MutW m1)
    (m2 : Mut) (A2 : Option Addr) (n2 c2 : Nat) (_ : n2 ≤ c2) (_ : c2 ≤ maxLen) (_ : A2 = none → c2 = 0) (hr2 : Reads w w.heap.size 3 A2 n2 (m2.ov.flatMap sc)) (_ : MutW m2) :
    Calls Try.prog 4 #[.agg (mutC m1 (.slice A1 n1 c1)), .agg (mutC m2 (.slice A2 n2 c2))] w fun e w' => e = .returned (.bool true) ∧ Below w.heap.size w w' := by
  have H : Held2 w (mutC m1 (.slice A1 n1 c1)) (mutC m2 (.slice A2 n2 c2)) ((w.alloc (.cells (mutC m1 (.slice A1 n1 c1)) 33)).alloc (.cells (mutC m2 (.slice A2 n2 c2)) 33)) := by
    have b2 := Blk.new (w.alloc (.cells (mutC m1 (.slice A1 n1 c1)) 33)) 33 (mutC m2 (.slice A2 n2 c2))
    simp only [World.size_alloc] at b2
    exact ⟨(Blk.new w 33 (mutC m1 (.slice A1 n1 c1))).alloc _, b2, ((Below.refl _ _).alloc (Nat.le_refl _) _).alloc (by simp) _⟩
  have HR1 := Lib.hid hr1
  have HR2 := Lib.hid hr2
  clear hr1 hr2
  obtain ⟨q, hq⟩ : ∃ q, (decide ((2 : Int) < ((2 : Nat) : Int)) || [(⟨m1, A1, n1, c1⟩ : MutS), ⟨m2, A2, n2, c2⟩].any great1) = q := ⟨_, rfl⟩
  go_enter Try.func4, Try.ntmps4
  go_upto_region 1 with fail
  generalize ((w.alloc (.cells (mutC m1 (.slice A1 n1 c1)) 33)).alloc (.cells (mutC m2 (.slice A2 n2 c2)) 33)) = W at *
  have q0 : ∀ p : Kept (fun _ => True) W.drew, p.v.cell? ⟨w.heap.size, 0, none⟩ = some (.int .i64 m1.tab) := fun p => p.h.cell trivial (H.b1.drew.cell 0)
  have q1 : ∀ p : Kept (fun _ => True) W.drew, p.v.cell? ⟨w.heap.size, 1, none⟩ = some (.int .i64 m1.kind) := fun p => p.h.cell trivial (H.b1.drew.cell 1)
  have q2 : ∀ p : Kept (fun _ => True) W.drew, p.v.cell? ⟨w.heap.size, 2, none⟩ = some (.string m1.key) := fun p => p.h.cell trivial (H.b1.drew.cell 2)
  have q3 : ∀ p : Kept (fun _ => True) W.drew, p.v.cell? ⟨w.heap.size, 3, none⟩ = some (.string m1.en) := fun p => p.h.cell trivial (H.b1.drew.cell 3)
  have q4 : ∀ p : Kept (fun _ => True) W.drew, p.v.cell? ⟨w.heap.size, 4, none⟩ = some (.string m1.val) := fun p => p.h.cell trivial (H.b1.drew.cell 4)
  have q5 : ∀ p : Kept (fun _ => True) W.drew, p.v.cell? ⟨w.heap.size, 5, none⟩ = some (.int .i64 m1.exp) := fun p => p.h.cell trivial (H.b1.drew.cell 5)
  have q6 : ∀ p : Kept (fun _ => True) W.drew, p.v.cell? ⟨w.heap.size, 6, none⟩ = some (.int .i64 m1.at_.1) := fun p => p.h.cell trivial (H.b1.drew.cell 6)
  have q7 : ∀ p : Kept (fun _ => True) W.drew, p.v.cell? ⟨w.heap.size, 7, none⟩ = some (.int .i64 m1.at_.2.1) := fun p => p.h.cell trivial (H.b1.drew.cell 7)
  have q8 : ∀ p : Kept (fun _ => True) W.drew, p.v.cell? ⟨w.heap.size, 8, none⟩ = some (.int .i64 m1.at_.2.2) := fun p => p.h.cell trivial (H.b1.drew.cell 8)
  have q9 : ∀ p : Kept (fun _ => True) W.drew, p.v.cell? ⟨w.heap.size, 9, none⟩ = some (.slice A1 n1 c1) := fun p => p.h.cell trivial (H.b1.drew.cell 9)
  have t0 : ∀ p : Kept (fun _ => True) W.drew, p.v.cell? ⟨w.heap.size + 1, 0, none⟩ = some (.int .i64 m2.tab) := fun p => p.h.cell trivial (H.b2.drew.cell 0)
  have t1 : ∀ p : Kept (fun _ => True) W.drew, p.v.cell? ⟨w.heap.size + 1, 1, none⟩ = some (.int .i64 m2.kind) := fun p => p.h.cell trivial (H.b2.drew.cell 1)
  have t2 : ∀ p : Kept (fun _ => True) W.drew, p.v.cell? ⟨w.heap.size + 1, 2, none⟩ = some (.string m2.key) := fun p => p.h.cell trivial (H.b2.drew.cell 2)
  have t3 : ∀ p : Kept (fun _ => True) W.drew, p.v.cell? ⟨w.heap.size + 1, 3, none⟩ = some (.string m2.en) := fun p => p.h.cell trivial (H.b2.drew.cell 3)
  have t4 : ∀ p : Kept (fun _ => True) W.drew, p.v.cell? ⟨w.heap.size + 1, 4, none⟩ = some (.string m2.val) := fun p => p.h.cell trivial (H.b2.drew.cell 4)
  have t5 : ∀ p : Kept (fun _ => True) W.drew, p.v.cell? ⟨w.heap.size + 1, 5, none⟩ = some (.int .i64 m2.exp) := fun p => p.h.cell trivial (H.b2.drew.cell 5)
  have t6 : ∀ p : Kept (fun _ => True) W.drew, p.v.cell? ⟨w.heap.size + 1, 6, none⟩ = some (.int .i64 m2.at_.1) := fun p => p.h.cell trivial (H.b2.drew.cell 6)
  have t7 : ∀ p : Kept (fun _ => True) W.drew, p.v.cell? ⟨w.heap.size + 1, 7, none⟩ = some (.int .i64 m2.at_.2.1) := fun p => p.h.cell trivial (H.b2.drew.cell 7)
  have t8 : ∀ p : Kept (fun _ => True) W.drew, p.v.cell? ⟨w.heap.size + 1, 8, none⟩ = some (.int .i64 m2.at_.2.2) := fun p => p.h.cell trivial (H.b2.drew.cell 8)
  have t9 : ∀ p : Kept (fun _ => True) W.drew, p.v.cell? ⟨w.heap.size + 1, 9, none⟩ = some (.slice A2 n2 c2) := fun p => p.h.cell trivial (H.b2.drew.cell 9)
  have KR1 : Hid (∀ w', KB W w' → Reads w' w'.heap.size 3 A1 n1 (m1.ov.flatMap sc)) := Lib.hid (fun w' h => ((HR1.out.below H.b).below (Below.mono h H.b.size)).more (Nat.le_trans H.b.size h.size))
  have KR2 : Hid (∀ w', KB W w' → Reads w' w'.heap.size 3 A2 n2 (m2.ov.flatMap sc)) := Lib.hid (fun w' h => ((HR2.out.below H.b).below (Below.mono h H.b.size)).more (Nat.le_trans H.b.size h.size))
  have K4 : Hid (∀ w', KB W w' → Below w.heap.size w w') := Lib.hid (fun w' h => H.b.trans (Below.mono h H.b.size))
  have HN : Hid (q = false → n1 ≤ 1000000000) := Lib.hid (fun h => by
    rw [h, Bool.or_eq_false_iff, List.any_cons, Bool.or_eq_false_iff] at hq
    have h2 := hq.2.1
    unfold great1 at h2
    rw [Bool.or_eq_false_iff] at h2
    have h3 := of_decide_eq_false h2.2
    dsimp only at h3
    omega)
  have HG : Hid (∀ (wx : World) (g : Nat) (cs : Array Value), cs = (mutL ⟨m1, A1, n1, c1⟩ ++ mutL ⟨m2, A2, n2, c2⟩).toArray → Blk wx g 33 cs → Calls Try.prog 7 #[.slice (some ⟨g, 0, none⟩) 2 2, .int .i64 2] wx fun e w' => e = .returned (.bool q) ∧ wx = w') := Lib.hid (fun wx g cs hcs hb => by
    have := law08_Great (some ⟨g, 0, none⟩) 2 2 [⟨m1, A1, n1, c1⟩, ⟨m2, A2, n2, c2⟩] 2 wx (reads_two hcs hb) (by decide)
    rw [hq] at this
    exact this)
  have BD1 := H.b1.drew
  have BD2 := H.b2.drew
  have HW := Lib.hid (KB.drew W)
  clear H hq HR1 HR2
  refine wp_region_mixDk (M := []) (fun _ => True) [0, 1, 2, 3, 4, 5, 6, 8, 9, 7, 10, 11, 12, 13, 14, 15, 16] (by kernel_rfl) (by kernel_rfl) ?_
  iterate 2 (refine mix_calmDk rfl rfl ?_; go_big_quiet_step (fail); refine wpQuiet_nil ?_)
  clear q0 t0 q1 t1 q2 t2 q3 t3 q4 t4 q5 t5 q6 t6 q7 t7 q8 t8 q9 t9
  generalize W.drew = W1 at *
  have BN := Blk.new W1 33 (mutL ⟨m1, A1, n1, c1⟩ ++ mutL ⟨m2, A2, n2, c2⟩).toArray
  refine mix_loudDk rfl (by kernel_rfl) rfl ?_
  intro K1 hK1
  have HK := Lib.hid hK1
  clear hK1 
  go_wp2_with fail
  refine HK.out _ _ ((Stand.refl _ _).alloc _) ?_
  clear HK
  replace BD1 := BD1.alloc (.cells (mutL ⟨m1, A1, n1, c1⟩ ++ mutL ⟨m2, A2, n2, c2⟩).toArray 33)
  replace BD2 := BD2.alloc (.cells (mutL ⟨m1, A1, n1, c1⟩ ++ mutL ⟨m2, A2, n2, c2⟩).toArray 33)
  replace HW := Lib.hid (HW.out.alloc (.cells (mutL ⟨m1, A1, n1, c1⟩ ++ mutL ⟨m2, A2, n2, c2⟩).toArray 33))
  have CG := Lib.hid (HG.out _ _ _ rfl BN)
  clear HG BN
  have eL : (mutL ⟨m1, A1, n1, c1⟩ ++ mutL ⟨m2, A2, n2, c2⟩).toArray = #[.int .i64 m1.tab, .int .i64 m1.kind, .string m1.key, .string m1.en, .string m1.val, .int .i64 m1.exp, .int .i64 m1.at_.1, .int .i64 m1.at_.2.1, .int .i64 m1.at_.2.2, .slice A1 n1 c1, .int .i64 m2.tab, .int .i64 m2.kind, .string m2.key, .string m2.en, .string m2.val, .int .i64 m2.exp, .int .i64 m2.at_.1, .int .i64 m2.at_.2.1, .int .i64 m2.at_.2.2, .slice A2 n2 c2] := rfl
  rw [eL] at BD1 BD2 HW CG
  clear eL
  generalize W1.alloc (.cells #[.int .i64 m1.tab, .int .i64 m1.kind, .string m1.key, .string m1.en, .string m1.val, .int .i64 m1.exp, .int .i64 m1.at_.1, .int .i64 m1.at_.2.1, .int .i64 m1.at_.2.2, .slice A1 n1 c1, .int .i64 m2.tab, .int .i64 m2.kind, .string m2.key, .string m2.en, .string m2.val, .int .i64 m2.exp, .int .i64 m2.at_.1, .int .i64 m2.at_.2.1, .int .i64 m2.at_.2.2, .slice A2 n2 c2] 33) = W2 at *
  generalize W1.heap.size = gN at *
  refine mix_loudDk rfl (by kernel_rfl) rfl ?_
  intro K1 hK1
  have HK := Lib.hid hK1
  clear hK1 
  go_wp2_with fail
  refine (CG.out).mono ?_
  rintro x w2 ⟨rfl, rfl⟩
  go_wp2_with fail
  refine HK.out _ _ (Stand.refl _ _) ?_
  clear HK
  clear CG
  iterate 1 (refine mix_calmDk rfl rfl ?_; go_big_quiet_step (fail); refine wpQuiet_nil ?_)
  cases q with
  | true =>
    clear BD1 BD2 KR1 KR2 HN
    iterate 4 (refine mix_calmDk rfl rfl ?_; go_big_quiet_step (fail); refine wpQuiet_nil ?_)
    refine mix_loudDk rfl (by kernel_rfl) rfl ?_
    intro K1 hK1
    have HK := Lib.hid hK1
    clear hK1
    go_wp2_with fail
    refine HK.out _ _ (Stand.refl _ _) ?_
    clear HK
    refine mix_loudDk rfl (by kernel_rfl) rfl ?_
    intro K1 hK1
    have HK := Lib.hid hK1
    clear hK1
    go_wp2_with fail
    refine HK.out _ _ (Stand.refl _ _) ?_
    clear HK
    iterate 2 (refine mix_calmDk rfl rfl ?_; go_big_quiet_step (fail); refine wpQuiet_nil ?_)
    refine mix_loudDk rfl (by kernel_rfl) rfl ?_
    intro K1 hK1
    have HK := Lib.hid hK1
    clear hK1
    go_wp2_with fail
    refine HK.out _ _ (Stand.refl _ _) ?_
    clear HK
    iterate 3 (refine mix_calmDk rfl rfl ?_; go_big_quiet_step (fail); refine wpQuiet_nil ?_)
    refine mix_endDk ?_
    have HK9 := Lib.hid (K4.out _ HW.out)
    go_wp2_with fail
    go_ret
    exact ⟨rfl, HK9.out⟩
  | false =>
    have hn1 := HN.out rfl
    have q0 : ∀ p : Kept (fun _ => True) W2, p.v.cell? ⟨w.heap.size, 0, none⟩ = some (.int .i64 m1.tab) := fun p => p.h.cell trivial (BD1.cell 0)
    have q1 : ∀ p : Kept (fun _ => True) W2, p.v.cell? ⟨w.heap.size, 1, none⟩ = some (.int .i64 m1.kind) := fun p => p.h.cell trivial (BD1.cell 1)
    have q2 : ∀ p : Kept (fun _ => True) W2, p.v.cell? ⟨w.heap.size, 2, none⟩ = some (.string m1.key) := fun p => p.h.cell trivial (BD1.cell 2)
    have q3 : ∀ p : Kept (fun _ => True) W2, p.v.cell? ⟨w.heap.size, 3, none⟩ = some (.string m1.en) := fun p => p.h.cell trivial (BD1.cell 3)
    have q4 : ∀ p : Kept (fun _ => True) W2, p.v.cell? ⟨w.heap.size, 4, none⟩ = some (.string m1.val) := fun p => p.h.cell trivial (BD1.cell 4)
    have q5 : ∀ p : Kept (fun _ => True) W2, p.v.cell? ⟨w.heap.size, 5, none⟩ = some (.int .i64 m1.exp) := fun p => p.h.cell trivial (BD1.cell 5)
    have q6 : ∀ p : Kept (fun _ => True) W2, p.v.cell? ⟨w.heap.size, 6, none⟩ = some (.int .i64 m1.at_.1) := fun p => p.h.cell trivial (BD1.cell 6)
    have q7 : ∀ p : Kept (fun _ => True) W2, p.v.cell? ⟨w.heap.size, 7, none⟩ = some (.int .i64 m1.at_.2.1) := fun p => p.h.cell trivial (BD1.cell 7)
    have q8 : ∀ p : Kept (fun _ => True) W2, p.v.cell? ⟨w.heap.size, 8, none⟩ = some (.int .i64 m1.at_.2.2) := fun p => p.h.cell trivial (BD1.cell 8)
    have q9 : ∀ p : Kept (fun _ => True) W2, p.v.cell? ⟨w.heap.size, 9, none⟩ = some (.slice A1 n1 c1) := fun p => p.h.cell trivial (BD1.cell 9)
    have t0 : ∀ p : Kept (fun _ => True) W2, p.v.cell? ⟨w.heap.size + 1, 0, none⟩ = some (.int .i64 m2.tab) := fun p => p.h.cell trivial (BD2.cell 0)
    have t1 : ∀ p : Kept (fun _ => True) W2, p.v.cell? ⟨w.heap.size + 1, 1, none⟩ = some (.int .i64 m2.kind) := fun p => p.h.cell trivial (BD2.cell 1)
    have t2 : ∀ p : Kept (fun _ => True) W2, p.v.cell? ⟨w.heap.size + 1, 2, none⟩ = some (.string m2.key) := fun p => p.h.cell trivial (BD2.cell 2)
    have t3 : ∀ p : Kept (fun _ => True) W2, p.v.cell? ⟨w.heap.size + 1, 3, none⟩ = some (.string m2.en) := fun p => p.h.cell trivial (BD2.cell 3)
    have t4 : ∀ p : Kept (fun _ => True) W2, p.v.cell? ⟨w.heap.size + 1, 4, none⟩ = some (.string m2.val) := fun p => p.h.cell trivial (BD2.cell 4)
    have t5 : ∀ p : Kept (fun _ => True) W2, p.v.cell? ⟨w.heap.size + 1, 5, none⟩ = some (.int .i64 m2.exp) := fun p => p.h.cell trivial (BD2.cell 5)
    have t6 : ∀ p : Kept (fun _ => True) W2, p.v.cell? ⟨w.heap.size + 1, 6, none⟩ = some (.int .i64 m2.at_.1) := fun p => p.h.cell trivial (BD2.cell 6)
    have t7 : ∀ p : Kept (fun _ => True) W2, p.v.cell? ⟨w.heap.size + 1, 7, none⟩ = some (.int .i64 m2.at_.2.1) := fun p => p.h.cell trivial (BD2.cell 7)
    have t8 : ∀ p : Kept (fun _ => True) W2, p.v.cell? ⟨w.heap.size + 1, 8, none⟩ = some (.int .i64 m2.at_.2.2) := fun p => p.h.cell trivial (BD2.cell 8)
    have t9 : ∀ p : Kept (fun _ => True) W2, p.v.cell? ⟨w.heap.size + 1, 9, none⟩ = some (.slice A2 n2 c2) := fun p => p.h.cell trivial (BD2.cell 9)
    clear BD1 BD2
    iterate 4 (refine mix_calmDk rfl rfl ?_; go_big_quiet_step (fail); refine wpQuiet_nil ?_)
    clear q0 t0 q1 t1 q2 t2 q3 t3 q4 t4 q5 t5 q6 t6 q7 t7 q8 t8 q9 t9
    have CC := Lib.hid (mem_Compare m1 m2 A1 A2 n1 c1 n2 c2 W2 (KR1.out W2 HW.out) (KR2.out W2 HW.out) hn1)
    unfold mutC at CC
    unfold mutC
    refine mix_loudDk rfl (by kernel_rfl) rfl ?_
    intro K1 hK1
    have HK := Lib.hid hK1
    clear hK1 
    go_wp2_with fail
    refine (CC.out).mono ?_
    rintro x w3 ⟨rfl, b3⟩
    have HS := Lib.hid (Stand.of_below (S := fun _ => True) b3)
    replace HW := Lib.hid (HW.out.then_ b3)
    clear b3 CC
    go_wp2_with fail
    refine HK.out _ _ (HS.out) ?_
    clear HK
    clear HS
    have CD := Lib.hid (law13_compare m1 m2 A1 A2 n1 c1 n2 c2 w3 (KR1.out w3 HW.out) (KR2.out w3 HW.out) hn1)
    unfold mutC at CD
    refine mix_loudDk rfl (by kernel_rfl) rfl ?_
    intro K1 hK1
    have HK := Lib.hid hK1
    clear hK1 
    go_wp2_with fail
    refine (CD.out).mono ?_
    rintro x w4 ⟨rfl, b4⟩
    have HS := Lib.hid (Stand.of_below (S := fun _ => True) b4)
    replace HW := Lib.hid (HW.out.then_ b4)
    clear b4 CD
    go_wp2_with fail
    refine HK.out _ _ (HS.out) ?_
    clear HK
    clear HS
    iterate 2 (refine mix_calmDk rfl rfl ?_; go_big_quiet_step (fail); refine wpQuiet_nil ?_)
    refine mix_loudDk rfl (by kernel_rfl) rfl ?_
    intro K1 hK1
    have HK := Lib.hid hK1
    clear hK1 
    go_wp2_with fail
    refine (law13_alive _).mono ?_
    rintro x w5 ⟨rfl, b5⟩
    have HS := Lib.hid (Stand.of_below (S := fun _ => True) b5)
    replace HW := Lib.hid (HW.out.then_ b5)
    clear b5
    go_wp2_with fail
    refine HK.out _ _ (HS.out) ?_
    clear HK
    clear HS
    iterate 3 (refine mix_calmDk rfl rfl ?_; go_big_quiet_step (fail); refine wpQuiet_nil ?_)
    refine mix_endDk ?_
    have HK9 := Lib.hid (K4.out _ HW.out)
    go_wp2_with fail
    go_ret
    exact ⟨rfl, HK9.out⟩
end Go.Proofs.Ythbhbechemnidaa
