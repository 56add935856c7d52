/- The walk of the law MutOrders: it returns true, and nothing that was there ahead of the call has turned. -/
import Derived.Test.YthbhbechemnidaaDoorMutV
import Derived.Test.YthbhbechemnidaaDoorMutL
import Derived.Test.YthbhbechemnidaaDoorOpenMut
import Derived.Deep.RegionHeld3
namespace Go.Proofs.YthbhbechemnidaaDoor
open Go.RowKit Go.Sort

theorem cmpI_selfO (a : Int) : cmpI a a = 0 := by unfold cmpI; simp
theorem cmp3_selfO (s : Int × Int × Int) : cmp3 s s = 0 := by unfold cmp3 cmpS or3; simp [cmpI_selfO]
theorem cmpR_selfO : ∀ l : List (Int × Int × Int), cmpR l l = 0
  | [] => rfl
  | a :: l => by
    show (if cmp3 a a = 0 then cmpR l l else cmp3 a a) = 0
    rw [if_pos (cmp3_selfO a), cmpR_selfO l]
theorem cmpM_ov (m : Mut) (ov : List (Int × Int × Int)) : cmpM m { m with ov := ov } = cmpR m.ov ov := by
  unfold cmpM
  dsimp only
  rw [cmp3_selfO, cmpI_selfO, cmpI_selfO, (cmpT_zero _ _).2 rfl, (cmpT_zero _ _).2 rfl, (cmpT_zero _ _).2 rfl, cmpI_selfO]
  simp only [orL, if_pos]
  by_cases h : cmpR m.ov ov = 0
  · rw [if_pos h, h]
  · rw [if_neg h]
theorem cmpM_selfO (m : Mut) : cmpM m m = 0 := (cmpM_ov m m.ov).trans (cmpR_selfO _)
theorem sameM_selfO (M : List Mut) : sameM M M = true := by
  unfold sameM
  rw [decide_eq_true rfl, Bool.true_and, List.all_eq_true]
  intro p hp
  have e : p.1 = p.2 := by
    obtain ⟨i, hi, rfl⟩ := List.mem_iff_getElem.1 hp
    simp
  rw [e, cmpM_selfO]
  rfl
theorem cmpM_first (m : Mut) (s : Int × Int × Int) (t : List (Int × Int × Int)) (x : Int) (h : m.ov = s :: t) (hx : x ≠ s.1) : ¬ cmpM m { m with ov := (x, s.2.1, s.2.2) :: t } = 0 := by
  rw [cmpM_ov, h]
  have h1 : ¬ cmpI s.1 x = 0 := by
    unfold cmpI
    by_cases a : s.1 < x
    · rw [if_pos a]; decide
    · rw [if_neg a, if_pos (by omega)]; decide
  have h2 : cmp3 s (x, s.2.1, s.2.2) = cmpI s.1 x := by unfold cmp3 cmpS or3; rw [if_neg h1]
  show ¬ (if cmp3 s (x, s.2.1, s.2.2) = 0 then cmpR t t else cmp3 s (x, s.2.1, s.2.2)) = 0
  rw [h2, if_neg h1]
  exact h1
theorem xor_one_ne (x : Int) : bits .xor .i64 x 1 ≠ x := by
  intro h
  have h1 : bits .xor .i64 x 1 = IntKind.i64.wrap ((BitVec.ofInt 64 x ^^^ BitVec.ofInt 64 1).toNat : Int) := rfl
  have h2 : BitVec.ofInt 64 (IntKind.i64.wrap ((BitVec.ofInt 64 x ^^^ BitVec.ofInt 64 1).toNat : Int)) = BitVec.ofInt 64 x ^^^ BitVec.ofInt 64 1 := by
    rw [IntKind.wrap_i64]
    apply BitVec.eq_of_toNat_eq
    rw [BitVec.toNat_ofInt]
    have := (BitVec.ofInt 64 x ^^^ BitVec.ofInt 64 1).isLt
    omega
  have h3 := congrArg (fun z => (BitVec.ofInt 64 z).getLsbD 0) (h1.symm.trans h)
  simp only [h2] at h3
  rw [BitVec.getLsbD_xor] at h3
  have h4 : (BitVec.ofInt 64 1).getLsbD 0 = true := by decide
  rw [h4] at h3
  cases hb : (BitVec.ofInt 64 x).getLsbD 0 <;> rw [hb] at h3 <;> simp at h3
theorem cell_other (w : World) {a b : Addr} (v : Value) (h : a ≠ b) : (w.setCell a v).cell? b = w.cell? b := by
  first
    | exact World.cell?_setCell_other h
    | exact World.cell?_setCell_other _ _ _ _ h
    | exact World.cell?_setCell_other w a b v h
    | exact World.cell?_setCell_other w a v b h
theorem reads_set0 {w : World} {g n : Nat} {s : Int × Int × Int} {t : List (Int × Int × Int)} (h : Reads w w.heap.size 3 (some ⟨g, 0, none⟩) n ((s :: t).flatMap sc)) (hn : 0 < n) (x : Int) :
    Reads (w.setCell ⟨g, 0, none⟩ (.int .i64 x)) (w.setCell ⟨g, 0, none⟩ (.int .i64 x)).heap.size 3 (some ⟨g, 0, none⟩) n (((x, s.2.1, s.2.2) :: t).flatMap sc) := by
  obtain ⟨h1, h2⟩ := h
  obtain ⟨ad, hA, hb, hc⟩ := h2 hn
  injection hA with hA
  subst hA
  have hc0 : w.cell? ⟨g, 0, none⟩ = some (.int .i64 s.1) := hc 0 _ (by simp [sc])
  refine ⟨by rw [← h1]; simp [sc], fun _ => ⟨_, rfl, by simpa [World.setCell] using hb, fun j u hu => ?_⟩⟩
  cases j with
  | zero =>
    have e : u = .int .i64 x := by simpa [sc] using hu.symm
    subst e
    exact World.cell?_setCell_same' w ⟨g, 0, none⟩ (.int .i64 x) (by rw [hc0]; rfl)
  | succ j =>
    rw [add_lit]
    have hne : (⟨g, 0, none⟩ : Addr) ≠ ⟨g, 0 + (j + 1), none⟩ := by intro e; injection e with _ e _; omega
    have h9 := hc (j + 1) u (by rw [← hu]; simp [sc])
    rw [add_lit] at h9
    exact (cell_other w _ hne).trans h9
theorem ownSt_frozen {w : World} {base : Nat} {v : Value} {S : List (Int × Int × Int)} (h : OwnSt w base v S) {g : Nat} (hg : v.ownBlock = some g) (k : Nat) : w.frozen? ⟨g, k, none⟩ = false := by
  rcases h.2 with ⟨hv, _⟩ | ⟨g', cap, cur, hv, _, hh, _⟩
  · rw [hv] at hg; simp [Value.ownBlock] at hg
  · rw [hv] at hg
    simp [Value.ownBlock] at hg
    subst hg
    simp [World.frozen?, hh]

/-- What stands behind a region's operations. -/
def KB (W w' : World) : Prop := Below W.heap.size W w'
theorem KB.drew (W : World) : KB W W.drew := below_drewN (Below.refl W.heap.size W) 1
theorem KB.alloc {W w' : World} (h : KB W w') (o : Obj) : KB W (w'.alloc o) := Below.alloc h h.size o
theorem KB.then_ {W w' w'' : World} (h : KB W w') (b : Below w'.heap.size w' w'') : KB W w'' := Below.trans h (b.mono h.size)
theorem KB.cell {W w' : World} (h : KB W w') {p : Addr} {v : Value} (q : W.cell? p = some v) : w'.cell? p = some v := (World.cell?_of_block (h.block p.block (block_lt_of_cell q))).trans q
theorem rdm_two {w' : World} {g : Nat} {e1 e2 : MutS} {cs : Array Value} (hcs : cs = (mutL e1 ++ mutL e2).toArray) (hb : Blk w' g 35 cs) (h1 : Reads w' w'.heap.size 3 e1.A e1.n (e1.m.ov.flatMap sc)) (h2 : Reads w' w'.heap.size 3 e2.A e2.n (e2.m.ov.flatMap sc))
    (z1 : e1.n ≤ 1000000000 ∧ (e1.A = none → e1.c = 0)) (z2 : e2.n ≤ 1000000000 ∧ (e2.A = none → e2.c = 0)) : RdM w' (some ⟨g, 0, none⟩) 2 [e1.m, e2.m] := by
  subst hcs
  refine ⟨[e1, e2], rfl, ⟨rfl, fun _ => ⟨_, rfl, hb.lt, fun j u hu => ?_⟩⟩, ?_, ?_⟩
  · have := hb.cell j
    rw [add_lit, Nat.zero_add, this]
    simpa using hu
  · intro e he
    rcases List.mem_cons.1 he with rfl | he
    · exact ⟨h1, fun _ _ => by simp⟩
    · rw [List.mem_singleton.1 he]
      exact ⟨h2, fun _ _ => by simp⟩
  · intro e he
    rcases List.mem_cons.1 he with rfl | he
    · exact z1
    · rw [List.mem_singleton.1 he]
      exact z2

theorem blk2a (a : World) (c1 c2 : Array Value) (t : TypeId) : Blk ((a.alloc (.cells c1 t)).alloc (.cells c2 t)).drew a.heap.size t c1 := ((Blk.new a t c1).alloc _).drew
theorem blk2b (a : World) (c1 c2 : Array Value) (t : TypeId) : Blk ((a.alloc (.cells c1 t)).alloc (.cells c2 t)).drew (a.heap.size + 1) t c2 := by
  have h := (Blk.new (a.alloc (.cells c1 t)) t c2).drew
  rw [World.size_alloc] at h
  exact h
theorem then2a {a w' : World} {c1 c2 : Array Value} {t : TypeId} (b : Below ((a.alloc (.cells c1 t)).alloc (.cells c2 t)).drew.heap.size ((a.alloc (.cells c1 t)).alloc (.cells c2 t)).drew w') : Blk w' a.heap.size t c1 := (blk2a a c1 c2 t).below b (blk2a a c1 c2 t).lt
theorem then2b {a w' : World} {c1 c2 : Array Value} {t : TypeId} (b : Below ((a.alloc (.cells c1 t)).alloc (.cells c2 t)).drew.heap.size ((a.alloc (.cells c1 t)).alloc (.cells c2 t)).drew w') : Blk w' (a.heap.size + 1) t c2 := (blk2b a c1 c2 t).below b (blk2b a c1 c2 t).lt
/-- The two mutations' blocks, as they came in. -/
structure Held2 (w : World) (c1 c2 : Array Value) (wr : World) : Prop where
  b1 : Blk wr w.heap.size 35 c1
  b2 : Blk wr (w.heap.size + 1) 35 c2
  b : Below w.heap.size w wr
theorem Held2.below {w wr w' : World} {c1 c2 : Array Value} (h : Held2 w c1 c2 wr) (b : Below wr.heap.size wr w') : Held2 w c1 c2 w' := ⟨h.b1.below b h.b1.lt, h.b2.below b h.b2.lt, h.b.trans (b.mono h.b.size)⟩
theorem Held2.alloc {w wr : World} {c1 c2 : Array Value} (h : Held2 w c1 c2 wr) (o : Obj) : Held2 w c1 c2 (wr.alloc o) := ⟨h.b1.alloc o, h.b2.alloc o, h.b.alloc h.b.size o⟩
theorem Held2.drew {w wr : World} {c1 c2 : Array Value} (h : Held2 w c1 c2 wr) : Held2 w c1 c2 wr.drew := ⟨h.b1.drew, h.b2.drew, below_drewN h.b 1⟩

set_option maxRecDepth 100000 in
set_option maxHeartbeats 8000000 in
theorem mut_orders_walk (w : World) (hT : Tabs w) (m1 : Mut) (A1 : Option Addr) (n1 c1 : Nat) (_ : n1 ≤ c1) (_ : c1 ≤ maxLen) (hA1 : A1 = none → c1 = 0) (hr1 : Reads w w.heap.size 3 A1 n1 (m1.ov.flatMap sc)) (_ : MutW m1)
    (m2 : Mut) (A2 : Option Addr) (n2 c2 : Nat) (_ : n2 ≤ c2) (_ : c2 ≤ maxLen) (hA2 : A2 = none → c2 = 0) (hr2 : Reads w w.heap.size 3 A2 n2 (m2.ov.flatMap sc)) (_ : MutW m2) (key : ByteArray) (_ : key.size ≤ maxLen) :
    Calls Tryd.prog 4 #[.agg (mutC m1 (.slice A1 n1 c1)), .agg (mutC m2 (.slice A2 n2 c2)), .string key] w fun e w' => e = .returned (.bool true) ∧ Below w.heap.size w w' := by
  have H : Held2 w (mutC m1 (.slice A1 n1 c1)) (mutC m2 (.slice A2 n2 c2)) ((w.alloc (.cells (mutC m1 (.slice A1 n1 c1)) 35)).alloc (.cells (mutC m2 (.slice A2 n2 c2)) 35)) := by
    have b2 := Blk.new (w.alloc (.cells (mutC m1 (.slice A1 n1 c1)) 35)) 35 (mutC m2 (.slice A2 n2 c2))
    simp only [World.size_alloc] at b2
    exact ⟨(Blk.new w 35 (mutC m1 (.slice A1 n1 c1))).alloc _, b2, ((Below.refl _ _).alloc (Nat.le_refl _) _).alloc (by simp) _⟩
  have HT := Lib.hid hT
  have HR1 := Lib.hid hr1
  have HR2 := Lib.hid hr2
  have HA1 := Lib.hid hA1
  have HA2 := Lib.hid hA2
  clear hT hr1 hr2 hA1 hA2
  obtain ⟨q1, hq1⟩ : ∃ q, great7 m1 n1 = q := ⟨_, rfl⟩
  obtain ⟨q2, hq2⟩ : ∃ q, great7 m2 n2 = q := ⟨_, rfl⟩
  go_enter Tryd.func4, Tryd.ntmps4
  go_upto_region 1 with fail
  generalize ((w.alloc (.cells (mutC m1 (.slice A1 n1 c1)) 35)).alloc (.cells (mutC m2 (.slice A2 n2 c2)) 35)) = W at *
  have CG1 := Lib.hid (hq1 ▸ law07_Great m1 A1 n1 c1 W)
  have q0 : W.cell? ⟨w.heap.size, 0, none⟩ = some (.int .i64 m1.tab) := H.b1.cell 0
  have q1 : W.cell? ⟨w.heap.size, 1, none⟩ = some (.int .i64 m1.kind) := H.b1.cell 1
  have q2 : W.cell? ⟨w.heap.size, 2, none⟩ = some (.string m1.key) := H.b1.cell 2
  have q3 : W.cell? ⟨w.heap.size, 3, none⟩ = some (.string m1.en) := H.b1.cell 3
  have q4 : W.cell? ⟨w.heap.size, 4, none⟩ = some (.string m1.val) := H.b1.cell 4
  have q5 : W.cell? ⟨w.heap.size, 5, none⟩ = some (.int .i64 m1.exp) := H.b1.cell 5
  have q6 : W.cell? ⟨w.heap.size, 6, none⟩ = some (.int .i64 m1.at_.1) := H.b1.cell 6
  have q7 : W.cell? ⟨w.heap.size, 7, none⟩ = some (.int .i64 m1.at_.2.1) := H.b1.cell 7
  have q8 : W.cell? ⟨w.heap.size, 8, none⟩ = some (.int .i64 m1.at_.2.2) := H.b1.cell 8
  have q9 : W.cell? ⟨w.heap.size, 9, none⟩ = some (.slice A1 n1 c1) := H.b1.cell 9
  go_wp2_with fail
  refine CG1.out.mono ?_
  clear CG1 q0 q1 q2 q3 q4 q5 q6 q7 q8 q9
  rintro y w1 ⟨rfl, b1⟩
  replace H := H.below b1
  clear b1
  have HQ1 := Lib.hid hq1
  have HQ2 := Lib.hid hq2
  cases q1
  case true =>
    clear hq1 hq2
    go_wp2_with fail
    go_ret
    exact ⟨rfl, H.b⟩
  have CG2 := Lib.hid (hq2 ▸ law07_Great m2 A2 n2 c2 w1)
  clear hq1 hq2
  have t0 : w1.cell? ⟨w.heap.size + 1, 0, none⟩ = some (.int .i64 m2.tab) := H.b2.cell 0
  have t1 : w1.cell? ⟨w.heap.size + 1, 1, none⟩ = some (.int .i64 m2.kind) := H.b2.cell 1
  have t2 : w1.cell? ⟨w.heap.size + 1, 2, none⟩ = some (.string m2.key) := H.b2.cell 2
  have t3 : w1.cell? ⟨w.heap.size + 1, 3, none⟩ = some (.string m2.en) := H.b2.cell 3
  have t4 : w1.cell? ⟨w.heap.size + 1, 4, none⟩ = some (.string m2.val) := H.b2.cell 4
  have t5 : w1.cell? ⟨w.heap.size + 1, 5, none⟩ = some (.int .i64 m2.exp) := H.b2.cell 5
  have t6 : w1.cell? ⟨w.heap.size + 1, 6, none⟩ = some (.int .i64 m2.at_.1) := H.b2.cell 6
  have t7 : w1.cell? ⟨w.heap.size + 1, 7, none⟩ = some (.int .i64 m2.at_.2.1) := H.b2.cell 7
  have t8 : w1.cell? ⟨w.heap.size + 1, 8, none⟩ = some (.int .i64 m2.at_.2.2) := H.b2.cell 8
  have t9 : w1.cell? ⟨w.heap.size + 1, 9, none⟩ = some (.slice A2 n2 c2) := H.b2.cell 9
  go_wp2_with fail
  refine CG2.out.mono ?_
  clear CG2 t0 t1 t2 t3 t4 t5 t6 t7 t8 t9
  rintro y w2 ⟨rfl, b1⟩
  replace H := H.below b1
  clear b1
  have hw2 : w.heap.size + 2 ≤ w2.heap.size := H.b2.lt
  cases q2
  case true =>
    go_wp2_with fail
    go_ret
    exact ⟨rfl, H.b⟩
  obtain ⟨z1, z2, z3, z4⟩ := great7_no HQ1.out
  obtain ⟨y1, y2, y3, y4⟩ := great7_no HQ2.out
  have CC := Lib.hid (mut_Copy m1 A1 n1 c1 w2 ((HR1.out.below H.b).more H.b.size) HA1.out (by omega))
  have q0 : w2.cell? ⟨w.heap.size, 0, none⟩ = some (.int .i64 m1.tab) := H.b1.cell 0
  have q1 : w2.cell? ⟨w.heap.size, 1, none⟩ = some (.int .i64 m1.kind) := H.b1.cell 1
  have q2 : w2.cell? ⟨w.heap.size, 2, none⟩ = some (.string m1.key) := H.b1.cell 2
  have q3 : w2.cell? ⟨w.heap.size, 3, none⟩ = some (.string m1.en) := H.b1.cell 3
  have q4 : w2.cell? ⟨w.heap.size, 4, none⟩ = some (.string m1.val) := H.b1.cell 4
  have q5 : w2.cell? ⟨w.heap.size, 5, none⟩ = some (.int .i64 m1.exp) := H.b1.cell 5
  have q6 : w2.cell? ⟨w.heap.size, 6, none⟩ = some (.int .i64 m1.at_.1) := H.b1.cell 6
  have q7 : w2.cell? ⟨w.heap.size, 7, none⟩ = some (.int .i64 m1.at_.2.1) := H.b1.cell 7
  have q8 : w2.cell? ⟨w.heap.size, 8, none⟩ = some (.int .i64 m1.at_.2.2) := H.b1.cell 8
  have q9 : w2.cell? ⟨w.heap.size, 9, none⟩ = some (.slice A1 n1 c1) := H.b1.cell 9
  go_wp2_with fail
  refine CC.out.mono ?_
  clear CC q0 q1 q2 q3 q4 q5 q6 q7 q8 q9
  rintro y w3 ⟨v9, rfl, O9, b3⟩
  replace H := H.below b3
  obtain ⟨A9, c9, rfl, -, hA9, hO9⟩ := own_form O9
  have hl1 : m1.ov.length = n1 := stamps_n HR1.out
  rw [hl1] at hO9 ⊢
  have O := Lib.hid O9
  have HO9 := Lib.hid hO9
  have HA9 := Lib.hid hA9
  have HL1 := Lib.hid hl1
  clear b3 O9 hO9 hA9 hl1
  unfold mutC
  go_upto_region 4 with fail
  have hgc : w.heap.size + 2 ≤ w3.heap.size := H.b2.lt
  have BC := Blk.new w3 35 (mutC m1 (.slice A9 n1 c9))
  replace H := H.alloc (.cells (mutC m1 (.slice A9 n1 c9)) 35)
  replace O := Lib.hid (World.ownsRow.alloc O.out (.cells (mutC m1 (.slice A9 n1 c9)) 35))
  change Code.wp _ _ _ _ (w3.alloc (.cells (mutC m1 (.slice A9 n1 c9)) 35))
  generalize w3.alloc (.cells (mutC m1 (.slice A9 n1 c9)) 35) = W4 at *
  generalize w3.heap.size = gc at *
  have q0 := cell_regrown (show W4.cell? ⟨w.heap.size, 0, none⟩ = some (.int .i64 m1.tab) from H.b1.cell 0)
  have q1 := cell_regrown (show W4.cell? ⟨w.heap.size, 1, none⟩ = some (.int .i64 m1.kind) from H.b1.cell 1)
  have q2 := cell_regrown (show W4.cell? ⟨w.heap.size, 2, none⟩ = some (.string m1.key) from H.b1.cell 2)
  have q3 := cell_regrown (show W4.cell? ⟨w.heap.size, 3, none⟩ = some (.string m1.en) from H.b1.cell 3)
  have q4 := cell_regrown (show W4.cell? ⟨w.heap.size, 4, none⟩ = some (.string m1.val) from H.b1.cell 4)
  have q5 := cell_regrown (show W4.cell? ⟨w.heap.size, 5, none⟩ = some (.int .i64 m1.exp) from H.b1.cell 5)
  have q6 := cell_regrown (show W4.cell? ⟨w.heap.size, 6, none⟩ = some (.int .i64 m1.at_.1) from H.b1.cell 6)
  have q7 := cell_regrown (show W4.cell? ⟨w.heap.size, 7, none⟩ = some (.int .i64 m1.at_.2.1) from H.b1.cell 7)
  have q8 := cell_regrown (show W4.cell? ⟨w.heap.size, 8, none⟩ = some (.int .i64 m1.at_.2.2) from H.b1.cell 8)
  have q9 := cell_regrown (show W4.cell? ⟨w.heap.size, 9, none⟩ = some (.slice A1 n1 c1) from H.b1.cell 9)
  have t0 := cell_regrown (show W4.cell? ⟨w.heap.size + 1, 0, none⟩ = some (.int .i64 m2.tab) from H.b2.cell 0)
  have t1 := cell_regrown (show W4.cell? ⟨w.heap.size + 1, 1, none⟩ = some (.int .i64 m2.kind) from H.b2.cell 1)
  have t2 := cell_regrown (show W4.cell? ⟨w.heap.size + 1, 2, none⟩ = some (.string m2.key) from H.b2.cell 2)
  have t3 := cell_regrown (show W4.cell? ⟨w.heap.size + 1, 3, none⟩ = some (.string m2.en) from H.b2.cell 3)
  have t4 := cell_regrown (show W4.cell? ⟨w.heap.size + 1, 4, none⟩ = some (.string m2.val) from H.b2.cell 4)
  have t5 := cell_regrown (show W4.cell? ⟨w.heap.size + 1, 5, none⟩ = some (.int .i64 m2.exp) from H.b2.cell 5)
  have t6 := cell_regrown (show W4.cell? ⟨w.heap.size + 1, 6, none⟩ = some (.int .i64 m2.at_.1) from H.b2.cell 6)
  have t7 := cell_regrown (show W4.cell? ⟨w.heap.size + 1, 7, none⟩ = some (.int .i64 m2.at_.2.1) from H.b2.cell 7)
  have t8 := cell_regrown (show W4.cell? ⟨w.heap.size + 1, 8, none⟩ = some (.int .i64 m2.at_.2.2) from H.b2.cell 8)
  have t9 := cell_regrown (show W4.cell? ⟨w.heap.size + 1, 9, none⟩ = some (.slice A2 n2 c2) from H.b2.cell 9)
  have u0 := cell_regrown (show W4.cell? ⟨gc, 0, none⟩ = some (.int .i64 m1.tab) from BC.cell 0)
  have u1 := cell_regrown (show W4.cell? ⟨gc, 1, none⟩ = some (.int .i64 m1.kind) from BC.cell 1)
  have u2 := cell_regrown (show W4.cell? ⟨gc, 2, none⟩ = some (.string m1.key) from BC.cell 2)
  have u3 := cell_regrown (show W4.cell? ⟨gc, 3, none⟩ = some (.string m1.en) from BC.cell 3)
  have u4 := cell_regrown (show W4.cell? ⟨gc, 4, none⟩ = some (.string m1.val) from BC.cell 4)
  have u5 := cell_regrown (show W4.cell? ⟨gc, 5, none⟩ = some (.int .i64 m1.exp) from BC.cell 5)
  have u6 := cell_regrown (show W4.cell? ⟨gc, 6, none⟩ = some (.int .i64 m1.at_.1) from BC.cell 6)
  have u7 := cell_regrown (show W4.cell? ⟨gc, 7, none⟩ = some (.int .i64 m1.at_.2.1) from BC.cell 7)
  have u8 := cell_regrown (show W4.cell? ⟨gc, 8, none⟩ = some (.int .i64 m1.at_.2.2) from BC.cell 8)
  have u9 := cell_regrown (show W4.cell? ⟨gc, 9, none⟩ = some (.slice A9 n1 c9) from BC.cell 9)
  obtain ⟨R, hR⟩ : ∃ R, cmpM m1 m2 = R := ⟨_, rfl⟩
  obtain ⟨cv, hcv⟩ : ∃ c, covB m1 key = c := ⟨_, rfl⟩
  have rr1 : ∀ d os, Reads (grow (redrawn W4 d) os) (grow (redrawn W4 d) os).heap.size 3 A1 n1 (m1.ov.flatMap sc) := fun d os => (HR1.out.below (below_regrown_of H.b H.b.size d os)).more (below_regrown_of H.b H.b.size d os).size
  have rr2 : ∀ d os, Reads (grow (redrawn W4 d) os) (grow (redrawn W4 d) os).heap.size 3 A2 n2 (m2.ov.flatMap sc) := fun d os => (HR2.out.below (below_regrown_of H.b H.b.size d os)).more (below_regrown_of H.b H.b.size d os).size
  have RC : Reads W4 W4.heap.size 3 A9 n1 (m1.ov.flatMap sc) := by
    have := Reads.of_own O.out
    rw [HL1.out] at this
    exact this
  have rr9 : ∀ d os, Reads (grow (redrawn W4 d) os) (grow (redrawn W4 d) os).heap.size 3 A9 n1 (m1.ov.flatMap sc) := fun d os => (RC.below (below_regrown W4 d os)).more (below_regrown W4 d os).size
  have k1 : ∀ d os, Calls Tryd.prog 26 #[.agg (mutC m1 (.slice A1 n1 c1)), .agg (mutC m2 (.slice A2 n2 c2))] (grow (redrawn W4 d) os) fun e w'' => e = .returned (.int .i64 R) ∧ ∃ p : Regrown, w'' = grow (redrawn W4 p.d) p.os := fun d os => Calls.regrown_of (hR ▸ mut_Compare m1 m2 A1 A2 n1 c1 n2 c2 _ (rr1 d os) (rr2 d os) (by omega))
  have k2 : ∀ d os, Calls Tryd.prog 27 #[.agg (mutC m1 (.slice A1 n1 c1)), .agg (mutC m2 (.slice A2 n2 c2))] (grow (redrawn W4 d) os) fun e w'' => e = .returned (.int .i64 R) ∧ ∃ p : Regrown, w'' = grow (redrawn W4 p.d) p.os := fun d os => Calls.regrown_of (hR ▸ ref07_Compare m1 m2 A1 A2 n1 c1 n2 c2 _ (rr1 d os) (rr2 d os) (by omega))
  have k3 : ∀ d os, Calls Tryd.prog 28 #[.agg (mutC m1 (.slice A1 n1 c1)), .agg (mutC m2 (.slice A2 n2 c2))] (grow (redrawn W4 d) os) fun e w'' => e = .returned (.bool (R == 0)) ∧ ∃ p : Regrown, w'' = grow (redrawn W4 p.d) p.os := fun d os => Calls.regrown_of (hR ▸ mut_Same m1 m2 A1 A2 n1 c1 n2 c2 _ (rr1 d os) (rr2 d os) (by omega))
  have k4 : ∀ d os, Calls Tryd.prog 29 #[.agg (mutC m1 (.slice A1 n1 c1)), .string key] (grow (redrawn W4 d) os) fun e w'' => e = .returned (.bool cv) ∧ ∃ p : Regrown, w'' = grow (redrawn W4 p.d) p.os := fun d os => Calls.regrown_of (hcv ▸ mut_Covers m1 A1 n1 c1 key _)
  have k5 : ∀ d os, Calls Tryd.prog 30 #[.agg (mutC m1 (.slice A1 n1 c1)), .string key] (grow (redrawn W4 d) os) fun e w'' => e = .returned (.bool cv) ∧ ∃ p : Regrown, w'' = grow (redrawn W4 p.d) p.os := fun d os => Calls.regrown_of (hcv ▸ ref07_Covers m1 A1 n1 c1 key _)
  have k6 : ∀ d os, Calls Tryd.prog 27 #[.agg (mutC m1 (.slice A1 n1 c1)), .agg (mutC m1 (.slice A9 n1 c9))] (grow (redrawn W4 d) os) fun e w'' => e = .returned (.int .i64 0) ∧ ∃ p : Regrown, w'' = grow (redrawn W4 p.d) p.os := fun d os => Calls.regrown_of (cmpM_selfO m1 ▸ ref07_Compare m1 m1 A1 A9 n1 c1 n1 c9 _ (rr1 d os) (rr9 d os) (by omega))
  unfold mutC at k1 k2 k3 k4 k5 k6
  have e1 : (R != R) = false := by simp
  have e2 : ((R == 0) != (R == 0)) = false := by simp
  have e3 : (cv != cv) = false := by simp
  clear hR hcv rr1 rr2 rr9
  refine wp_region_quiet_below (by kernel_rfl) (by kernel_rfl) ?_
  repeat (go_big_quiet_step (first | with_reducible exact k1 _ _ | with_reducible exact k2 _ _ | with_reducible exact k3 _ _ | with_reducible exact k4 _ _ | with_reducible exact k5 _ _ | with_reducible exact k6 _ _))
  refine wpQuiet_nil ?_
  intro _ hw'
  obtain ⟨⟨dq, osq⟩, hw''⟩ := hw'
  subst hw''
  have bz := below_regrown W4 dq osq
  replace H := H.below bz
  replace BC := BC.below bz BC.lt
  replace O := Lib.hid (own_below O.out bz)
  clear bz k1 k2 k3 k4 k5 k6 e1 e2 e3 RC
  clear q0 q1 q2 q3 q4 q5 q6 q7 q8 q9 t0 t1 t2 t3 t4 t5 t6 t7 t8 t9 u0 u1 u2 u3 u4 u5 u6 u7 u8 u9
  generalize grow (redrawn W4 dq) osq = W5 at *
  have qc9 : W5.cell? ⟨gc, 9, none⟩ = some (.slice A9 n1 c9) := BC.cell 9
  rcases Nat.eq_zero_or_pos n1 with hn0 | hn0
  · have hd : decide (0 < n1) = false := by simp; omega
    clear hn0
    go_upto_region 10 with fail
    have HW := Lib.hid H.b
    have q0 : ∀ w', KB W5 w' → w'.cell? ⟨w.heap.size, 0, none⟩ = some (.int .i64 m1.tab) := fun w' h => h.cell (H.b1.cell 0)
    have q1 : ∀ w', KB W5 w' → w'.cell? ⟨w.heap.size, 1, none⟩ = some (.int .i64 m1.kind) := fun w' h => h.cell (H.b1.cell 1)
    have q2 : ∀ w', KB W5 w' → w'.cell? ⟨w.heap.size, 2, none⟩ = some (.string m1.key) := fun w' h => h.cell (H.b1.cell 2)
    have q3 : ∀ w', KB W5 w' → w'.cell? ⟨w.heap.size, 3, none⟩ = some (.string m1.en) := fun w' h => h.cell (H.b1.cell 3)
    have q4 : ∀ w', KB W5 w' → w'.cell? ⟨w.heap.size, 4, none⟩ = some (.string m1.val) := fun w' h => h.cell (H.b1.cell 4)
    have q5 : ∀ w', KB W5 w' → w'.cell? ⟨w.heap.size, 5, none⟩ = some (.int .i64 m1.exp) := fun w' h => h.cell (H.b1.cell 5)
    have q6 : ∀ w', KB W5 w' → w'.cell? ⟨w.heap.size, 6, none⟩ = some (.int .i64 m1.at_.1) := fun w' h => h.cell (H.b1.cell 6)
    have q7 : ∀ w', KB W5 w' → w'.cell? ⟨w.heap.size, 7, none⟩ = some (.int .i64 m1.at_.2.1) := fun w' h => h.cell (H.b1.cell 7)
    have q8 : ∀ w', KB W5 w' → w'.cell? ⟨w.heap.size, 8, none⟩ = some (.int .i64 m1.at_.2.2) := fun w' h => h.cell (H.b1.cell 8)
    have q9 : ∀ w', KB W5 w' → w'.cell? ⟨w.heap.size, 9, none⟩ = some (.slice A1 n1 c1) := fun w' h => h.cell (H.b1.cell 9)
    have t0 : ∀ w', KB W5 w' → w'.cell? ⟨w.heap.size + 1, 0, none⟩ = some (.int .i64 m2.tab) := fun w' h => h.cell (H.b2.cell 0)
    have t1 : ∀ w', KB W5 w' → w'.cell? ⟨w.heap.size + 1, 1, none⟩ = some (.int .i64 m2.kind) := fun w' h => h.cell (H.b2.cell 1)
    have t2 : ∀ w', KB W5 w' → w'.cell? ⟨w.heap.size + 1, 2, none⟩ = some (.string m2.key) := fun w' h => h.cell (H.b2.cell 2)
    have t3 : ∀ w', KB W5 w' → w'.cell? ⟨w.heap.size + 1, 3, none⟩ = some (.string m2.en) := fun w' h => h.cell (H.b2.cell 3)
    have t4 : ∀ w', KB W5 w' → w'.cell? ⟨w.heap.size + 1, 4, none⟩ = some (.string m2.val) := fun w' h => h.cell (H.b2.cell 4)
    have t5 : ∀ w', KB W5 w' → w'.cell? ⟨w.heap.size + 1, 5, none⟩ = some (.int .i64 m2.exp) := fun w' h => h.cell (H.b2.cell 5)
    have t6 : ∀ w', KB W5 w' → w'.cell? ⟨w.heap.size + 1, 6, none⟩ = some (.int .i64 m2.at_.1) := fun w' h => h.cell (H.b2.cell 6)
    have t7 : ∀ w', KB W5 w' → w'.cell? ⟨w.heap.size + 1, 7, none⟩ = some (.int .i64 m2.at_.2.1) := fun w' h => h.cell (H.b2.cell 7)
    have t8 : ∀ w', KB W5 w' → w'.cell? ⟨w.heap.size + 1, 8, none⟩ = some (.int .i64 m2.at_.2.2) := fun w' h => h.cell (H.b2.cell 8)
    have t9 : ∀ w', KB W5 w' → w'.cell? ⟨w.heap.size + 1, 9, none⟩ = some (.slice A2 n2 c2) := fun w' h => h.cell (H.b2.cell 9)
    have K1 : Hid (∀ w', KB W5 w' → Reads w' w'.heap.size 3 A1 n1 (m1.ov.flatMap sc)) := Lib.hid (fun w' h => ((HR1.out.below H.b).below (Below.mono h H.b.size)).more (Nat.le_trans H.b.size h.size))
    have K2 : Hid (∀ w', KB W5 w' → Reads w' w'.heap.size 3 A2 n2 (m2.ov.flatMap sc)) := Lib.hid (fun w' h => ((HR2.out.below H.b).below (Below.mono h H.b.size)).more (Nat.le_trans H.b.size h.size))
    have K3 : Hid (∀ w', KB W5 w' → Tabs w') := Lib.hid (fun w' h => HT.out.in_ (Nat.le_refl _) (H.b.trans (Below.mono h H.b.size)))
    have K4 : Hid (∀ w', KB W5 w' → Below w.heap.size w w') := Lib.hid (fun w' h => H.b.trans (Below.mono h H.b.size))
    have Z1 := Lib.hid (And.intro (show n1 ≤ 1000000000 by omega) HA1.out)
    have Z2 := Lib.hid (And.intro (show n2 ≤ 1000000000 by omega) HA2.out)
    have hss := sameM_selfO [m1, m2]
    clear H
    go_region_held3 (fun w' => KB W5 w') (first | assumption | exact KB.drew _ | exact KB.alloc (by assumption) _ | exact KB.then_ (by assumption) (by assumption)) (first
      | (go_at_call 31; refine (mut_Copies (some ⟨_, 0, none⟩) 2 2 [m1, m2] _ (rdm_two (e1 := ⟨m1, A1, n1, c1⟩) (e2 := ⟨m2, A2, n2, c2⟩) rfl (by first | exact Blk.new _ _ _ | exact blk2a _ _ _ _ | exact blk2b _ _ _ _) (K1.out _ (by assumption)) (K2.out _ (by assumption)) Z1.out Z2.out) (by decide)).mono ?_; rintro y u3 ⟨v3, rfl, O3, b3⟩; obtain ⟨A3, c3, rfl, -, -, R3⟩ := O3.rd; clear O3)
      | (go_at_call 17; refine (ref07_Same A3 (some ⟨_, 0, none⟩) 2 c3 2 2 [m1, m2] [m1, m2] _ (by first | exact R3 | exact R3.below ((Below.refl _ _).alloc (Nat.le_refl _) _)) (rdm_two (e1 := ⟨m1, A1, n1, c1⟩) (e2 := ⟨m2, A2, n2, c2⟩) rfl (by first | exact Blk.new _ _ _ | exact then2b b3 | exact then2a b3) (K1.out _ (by assumption)) (K2.out _ (by assumption)) Z1.out Z2.out) (by decide)).mono ?_; rw [hss]; rintro y u5 ⟨rfl, b5⟩)
      | (go_at_call 32; refine (alive07 _ (K3.out _ (by assumption))).mono ?_; rintro y u6 ⟨rfl, b6⟩))
    all_goals
      have hk9 : Below w.heap.size w _ := K4.out _ (by assumption)
      have HK9 := Lib.hid hk9
      go_wp2_with fail
      go_ret
      exact ⟨rfl, HK9.out⟩
  · have hd : decide (0 < n1) = true := by simp; omega
    obtain ⟨s, t, hst⟩ : ∃ s t, m1.ov = s :: t := by
      cases h : m1.ov with
      | nil => have := HL1.out; rw [h] at this; simp at this; omega
      | cons a b => exact ⟨a, b, rfl⟩
    obtain ⟨g9, hA9, hg9, hg9c, hc9⟩ := HO9.out hn0
    subst hA9
    have R9 := Reads.of_own O.out
    rw [HL1.out] at R9
    have HR9 := Lib.hid R9
    have hst' := hst
    rw [hst] at R9
    obtain ⟨b9, o9, hA, hb9, t0, t1, t2⟩ := stamp_at R9 (k := 0) (by simp)
    injection hA with hA
    injection hA with e1 e2
    subst e1 e2
    have p0 : W5.cell? ⟨g9, 0, none⟩ = some (.int .i64 s.1) := t0
    have fr : W5.frozen? ⟨g9, 0, none⟩ = false := ownSt_frozen O.out rfl 0
    have h01 : (0 : Int) < (n1 : Int) := by omega
    clear R9 t0 t1 t2 hc9
    go_upto_region 7 with fail
    go_region
    obtain ⟨x, hx⟩ : ∃ x, bits .xor .i64 s.1 1 = x := ⟨_, rfl⟩
    have hxn : x ≠ s.1 := by rw [← hx]; exact xor_one_ne _
    have HXN := Lib.hid (cmpM_first m1 s t x hst' hxn)
    rw [hx]
    clear hx hxn
    have hR9 := HR9.out
    rw [hst'] at hR9
    have RS := Lib.hid (reads_set0 hR9 hn0 x)
    have hg9b : w.heap.size + 2 ≤ g9 := by omega
    replace BC := (BC.far (p := ⟨g9, 0, none⟩) (show gc ≠ g9 by omega) (.int .i64 x)).drew
    replace H : Held2 w (mutC m1 (.slice A1 n1 c1)) (mutC m2 (.slice A2 n2 c2)) (W5.setCell ⟨g9, 0, none⟩ (.int .i64 x)).drew := ⟨(H.b1.far (p := ⟨g9, 0, none⟩) (show w.heap.size ≠ g9 by omega) (.int .i64 x)).drew, (H.b2.far (p := ⟨g9, 0, none⟩) (show w.heap.size + 1 ≠ g9 by omega) (.int .i64 x)).drew, below_drewN (H.b.setCell (p := ⟨g9, 0, none⟩) (show w.heap.size ≤ g9 by omega) (.int .i64 x)) 1⟩
    have RC := Lib.hid (RS.out.drewN 1)
    change Hid (Reads (W5.setCell ⟨g9, 0, none⟩ (.int .i64 x)).drew (W5.setCell ⟨g9, 0, none⟩ (.int .i64 x)).drew.heap.size 3 (some ⟨g9, 0, none⟩) n1 (((x, s.2.1, s.2.2) :: t).flatMap sc)) at RC
    clear p0 fr h01 qc9 hR9 RS HR9 O hst hst'
    generalize (W5.setCell ⟨g9, 0, none⟩ (.int .i64 x)).drew = W7 at *
    have hmc : mutC { m1 with ov := (x, s.2.1, s.2.2) :: t } (.slice (some ⟨g9, 0, none⟩) n1 c9) = mutC m1 (.slice (some ⟨g9, 0, none⟩) n1 c9) := rfl
    obtain ⟨R8, hR8⟩ : ∃ R, cmpM m1 { m1 with ov := (x, s.2.1, s.2.2) :: t } = R := ⟨_, rfl⟩
    have C8 := Lib.hid (mut_Compare m1 { m1 with ov := (x, s.2.1, s.2.2) :: t } A1 (some ⟨g9, 0, none⟩) n1 c1 n1 c9 W7.drew (((HR1.out.below H.b).more H.b.size).drewN 1) (RC.out.drewN 1) (by omega))
    rw [hmc, hR8] at C8
    have hn8 : (R8 == 0) = false := by
      have := HXN.out
      rw [hR8] at this
      simpa using this
    clear hR8 hmc RC HXN
    replace H := H.drew
    replace BC := BC.drew
    go_upto_region 8 with fail
    have HLT := Lib.hid (And.intro H.b1.lt BC.lt)
    change Hid (w.heap.size < W7.heap.size ∧ gc < W7.heap.size) at HLT
    have q0 : ∀ p : Kept (· < W7.heap.size) W7.drew, p.v.cell? ⟨w.heap.size, 0, none⟩ = some (.int .i64 m1.tab) := fun p => p.h.cell (show w.heap.size < W7.heap.size by have := HLT.out; omega) (H.b1.cell 0)
    have q1 : ∀ p : Kept (· < W7.heap.size) W7.drew, p.v.cell? ⟨w.heap.size, 1, none⟩ = some (.int .i64 m1.kind) := fun p => p.h.cell (show w.heap.size < W7.heap.size by have := HLT.out; omega) (H.b1.cell 1)
    have q2 : ∀ p : Kept (· < W7.heap.size) W7.drew, p.v.cell? ⟨w.heap.size, 2, none⟩ = some (.string m1.key) := fun p => p.h.cell (show w.heap.size < W7.heap.size by have := HLT.out; omega) (H.b1.cell 2)
    have q3 : ∀ p : Kept (· < W7.heap.size) W7.drew, p.v.cell? ⟨w.heap.size, 3, none⟩ = some (.string m1.en) := fun p => p.h.cell (show w.heap.size < W7.heap.size by have := HLT.out; omega) (H.b1.cell 3)
    have q4 : ∀ p : Kept (· < W7.heap.size) W7.drew, p.v.cell? ⟨w.heap.size, 4, none⟩ = some (.string m1.val) := fun p => p.h.cell (show w.heap.size < W7.heap.size by have := HLT.out; omega) (H.b1.cell 4)
    have q5 : ∀ p : Kept (· < W7.heap.size) W7.drew, p.v.cell? ⟨w.heap.size, 5, none⟩ = some (.int .i64 m1.exp) := fun p => p.h.cell (show w.heap.size < W7.heap.size by have := HLT.out; omega) (H.b1.cell 5)
    have q6 : ∀ p : Kept (· < W7.heap.size) W7.drew, p.v.cell? ⟨w.heap.size, 6, none⟩ = some (.int .i64 m1.at_.1) := fun p => p.h.cell (show w.heap.size < W7.heap.size by have := HLT.out; omega) (H.b1.cell 6)
    have q7 : ∀ p : Kept (· < W7.heap.size) W7.drew, p.v.cell? ⟨w.heap.size, 7, none⟩ = some (.int .i64 m1.at_.2.1) := fun p => p.h.cell (show w.heap.size < W7.heap.size by have := HLT.out; omega) (H.b1.cell 7)
    have q8 : ∀ p : Kept (· < W7.heap.size) W7.drew, p.v.cell? ⟨w.heap.size, 8, none⟩ = some (.int .i64 m1.at_.2.2) := fun p => p.h.cell (show w.heap.size < W7.heap.size by have := HLT.out; omega) (H.b1.cell 8)
    have q9 : ∀ p : Kept (· < W7.heap.size) W7.drew, p.v.cell? ⟨w.heap.size, 9, none⟩ = some (.slice A1 n1 c1) := fun p => p.h.cell (show w.heap.size < W7.heap.size by have := HLT.out; omega) (H.b1.cell 9)
    have u0 : ∀ p : Kept (· < W7.heap.size) W7.drew, p.v.cell? ⟨gc, 0, none⟩ = some (.int .i64 m1.tab) := fun p => p.h.cell (show gc < W7.heap.size by have := HLT.out; omega) (BC.cell 0)
    have u1 : ∀ p : Kept (· < W7.heap.size) W7.drew, p.v.cell? ⟨gc, 1, none⟩ = some (.int .i64 m1.kind) := fun p => p.h.cell (show gc < W7.heap.size by have := HLT.out; omega) (BC.cell 1)
    have u2 : ∀ p : Kept (· < W7.heap.size) W7.drew, p.v.cell? ⟨gc, 2, none⟩ = some (.string m1.key) := fun p => p.h.cell (show gc < W7.heap.size by have := HLT.out; omega) (BC.cell 2)
    have u3 : ∀ p : Kept (· < W7.heap.size) W7.drew, p.v.cell? ⟨gc, 3, none⟩ = some (.string m1.en) := fun p => p.h.cell (show gc < W7.heap.size by have := HLT.out; omega) (BC.cell 3)
    have u4 : ∀ p : Kept (· < W7.heap.size) W7.drew, p.v.cell? ⟨gc, 4, none⟩ = some (.string m1.val) := fun p => p.h.cell (show gc < W7.heap.size by have := HLT.out; omega) (BC.cell 4)
    have u5 : ∀ p : Kept (· < W7.heap.size) W7.drew, p.v.cell? ⟨gc, 5, none⟩ = some (.int .i64 m1.exp) := fun p => p.h.cell (show gc < W7.heap.size by have := HLT.out; omega) (BC.cell 5)
    have u6 : ∀ p : Kept (· < W7.heap.size) W7.drew, p.v.cell? ⟨gc, 6, none⟩ = some (.int .i64 m1.at_.1) := fun p => p.h.cell (show gc < W7.heap.size by have := HLT.out; omega) (BC.cell 6)
    have u7 : ∀ p : Kept (· < W7.heap.size) W7.drew, p.v.cell? ⟨gc, 7, none⟩ = some (.int .i64 m1.at_.2.1) := fun p => p.h.cell (show gc < W7.heap.size by have := HLT.out; omega) (BC.cell 7)
    have u8 : ∀ p : Kept (· < W7.heap.size) W7.drew, p.v.cell? ⟨gc, 8, none⟩ = some (.int .i64 m1.at_.2.2) := fun p => p.h.cell (show gc < W7.heap.size by have := HLT.out; omega) (BC.cell 8)
    have u9 : ∀ p : Kept (· < W7.heap.size) W7.drew, p.v.cell? ⟨gc, 9, none⟩ = some (.slice (some ⟨g9, 0, none⟩) n1 c9) := fun p => p.h.cell (show gc < W7.heap.size by have := HLT.out; omega) (BC.cell 9)
    unfold mutC at C8
    refine wp_region_mixDk (M := []) (· < W7.heap.size) [0, 1, 2, 3, 4, 5, 7, 6, 8, 9, 10] (by kernel_rfl) (by kernel_rfl) ?_
    iterate 2 (refine mix_calmDk rfl rfl ?_; go_big_quiet_step (fail); refine wpQuiet_nil ?_)
    refine mix_loudDk rfl (by kernel_rfl) rfl ?_
    intro K1 hK1
    have HK := Lib.hid hK1
    clear hK1 q0 q1 q2 q3 q4 q5 q6 q7 q8 q9 u0 u1 u2 u3 u4 u5 u6 u7 u8 u9
    go_wp2_with fail
    refine (C8.out).mono ?_
    rintro x w8 ⟨rfl, b8⟩
    have HS9 := Lib.hid (Stand.of_below (S := (· < W7.heap.size)) b8)
    have hs8 : W7.heap.size ≤ w8.heap.size := b8.size
    replace H := H.below b8
    clear b8 C8 BC
    go_wp2_with fail
    refine HK.out _ _ (HS9.out) ?_
    clear HK
    clear HS9
    have q0 : ∀ p : Kept (· < W7.heap.size) w8, p.v.cell? ⟨w.heap.size, 0, none⟩ = some (.int .i64 m1.tab) := fun p => p.h.cell (show w.heap.size < W7.heap.size by have := HLT.out; omega) (H.b1.cell 0)
    have q1 : ∀ p : Kept (· < W7.heap.size) w8, p.v.cell? ⟨w.heap.size, 1, none⟩ = some (.int .i64 m1.kind) := fun p => p.h.cell (show w.heap.size < W7.heap.size by have := HLT.out; omega) (H.b1.cell 1)
    have q2 : ∀ p : Kept (· < W7.heap.size) w8, p.v.cell? ⟨w.heap.size, 2, none⟩ = some (.string m1.key) := fun p => p.h.cell (show w.heap.size < W7.heap.size by have := HLT.out; omega) (H.b1.cell 2)
    have q3 : ∀ p : Kept (· < W7.heap.size) w8, p.v.cell? ⟨w.heap.size, 3, none⟩ = some (.string m1.en) := fun p => p.h.cell (show w.heap.size < W7.heap.size by have := HLT.out; omega) (H.b1.cell 3)
    have q4 : ∀ p : Kept (· < W7.heap.size) w8, p.v.cell? ⟨w.heap.size, 4, none⟩ = some (.string m1.val) := fun p => p.h.cell (show w.heap.size < W7.heap.size by have := HLT.out; omega) (H.b1.cell 4)
    have q5 : ∀ p : Kept (· < W7.heap.size) w8, p.v.cell? ⟨w.heap.size, 5, none⟩ = some (.int .i64 m1.exp) := fun p => p.h.cell (show w.heap.size < W7.heap.size by have := HLT.out; omega) (H.b1.cell 5)
    have q6 : ∀ p : Kept (· < W7.heap.size) w8, p.v.cell? ⟨w.heap.size, 6, none⟩ = some (.int .i64 m1.at_.1) := fun p => p.h.cell (show w.heap.size < W7.heap.size by have := HLT.out; omega) (H.b1.cell 6)
    have q7 : ∀ p : Kept (· < W7.heap.size) w8, p.v.cell? ⟨w.heap.size, 7, none⟩ = some (.int .i64 m1.at_.2.1) := fun p => p.h.cell (show w.heap.size < W7.heap.size by have := HLT.out; omega) (H.b1.cell 7)
    have q8 : ∀ p : Kept (· < W7.heap.size) w8, p.v.cell? ⟨w.heap.size, 8, none⟩ = some (.int .i64 m1.at_.2.2) := fun p => p.h.cell (show w.heap.size < W7.heap.size by have := HLT.out; omega) (H.b1.cell 8)
    have q9 : ∀ p : Kept (· < W7.heap.size) w8, p.v.cell? ⟨w.heap.size, 9, none⟩ = some (.slice A1 n1 c1) := fun p => p.h.cell (show w.heap.size < W7.heap.size by have := HLT.out; omega) (H.b1.cell 9)
    iterate 4 (refine mix_calmDk rfl rfl ?_; go_big_quiet_step (fail); refine wpQuiet_nil ?_)
    have CP := Lib.hid (mut_Copy m1 A1 n1 c1 w8 ((HR1.out.below H.b).more H.b.size) HA1.out (by omega))
    unfold mutC at CP
    refine mix_loudDk rfl (by kernel_rfl) rfl ?_
    intro K1 hK1
    have HK := Lib.hid hK1
    clear hK1 q0 q1 q2 q3 q4 q5 q6 q7 q8 q9
    go_wp2_with fail
    refine (CP.out).mono ?_
    rintro x w9 ⟨v8, rfl, O8, b9⟩
    have HS9 := Lib.hid (Stand.of_below (S := (· < W7.heap.size)) b9)
    replace H := H.below b9
    obtain ⟨A8, c8, rfl, -, -, -⟩ := own_form O8
    have R8' := Lib.hid (Reads.of_own O8)
    clear b9 CP O8
    go_wp2_with fail
    refine HK.out _ _ (HS9.out) ?_
    clear HK
    clear HS9
    have CQ := Lib.hid (mut_Compare m1 m1 A8 A1 m1.ov.length c8 n1 c1 w9 R8'.out ((HR1.out.below H.b).more H.b.size) (by rw [HL1.out]; omega))
    rw [cmpM_selfO] at CQ
    unfold mutC at CQ
    unfold mutC
    refine mix_loudDk rfl (by kernel_rfl) rfl ?_
    intro K1 hK1
    have HK := Lib.hid hK1
    clear hK1 
    go_wp2_with fail
    refine (CQ.out).mono ?_
    rintro x w10 ⟨rfl, b10⟩
    have HS9 := Lib.hid (Stand.of_below (S := (· < W7.heap.size)) b10)
    replace H := H.below b10
    clear b10 CQ R8'
    go_wp2_with fail
    refine HK.out _ _ (HS9.out) ?_
    clear HK
    clear HS9
    iterate 2 (refine mix_calmDk rfl rfl ?_; go_big_quiet_step (fail); refine wpQuiet_nil ?_)
    refine mix_endDk ?_
    clear hn8 HLT hs8
    go_upto_region 10 with fail
    have HW := Lib.hid H.b
    have q0 : ∀ w', KB w10 w' → w'.cell? ⟨w.heap.size, 0, none⟩ = some (.int .i64 m1.tab) := fun w' h => h.cell (H.b1.cell 0)
    have q1 : ∀ w', KB w10 w' → w'.cell? ⟨w.heap.size, 1, none⟩ = some (.int .i64 m1.kind) := fun w' h => h.cell (H.b1.cell 1)
    have q2 : ∀ w', KB w10 w' → w'.cell? ⟨w.heap.size, 2, none⟩ = some (.string m1.key) := fun w' h => h.cell (H.b1.cell 2)
    have q3 : ∀ w', KB w10 w' → w'.cell? ⟨w.heap.size, 3, none⟩ = some (.string m1.en) := fun w' h => h.cell (H.b1.cell 3)
    have q4 : ∀ w', KB w10 w' → w'.cell? ⟨w.heap.size, 4, none⟩ = some (.string m1.val) := fun w' h => h.cell (H.b1.cell 4)
    have q5 : ∀ w', KB w10 w' → w'.cell? ⟨w.heap.size, 5, none⟩ = some (.int .i64 m1.exp) := fun w' h => h.cell (H.b1.cell 5)
    have q6 : ∀ w', KB w10 w' → w'.cell? ⟨w.heap.size, 6, none⟩ = some (.int .i64 m1.at_.1) := fun w' h => h.cell (H.b1.cell 6)
    have q7 : ∀ w', KB w10 w' → w'.cell? ⟨w.heap.size, 7, none⟩ = some (.int .i64 m1.at_.2.1) := fun w' h => h.cell (H.b1.cell 7)
    have q8 : ∀ w', KB w10 w' → w'.cell? ⟨w.heap.size, 8, none⟩ = some (.int .i64 m1.at_.2.2) := fun w' h => h.cell (H.b1.cell 8)
    have q9 : ∀ w', KB w10 w' → w'.cell? ⟨w.heap.size, 9, none⟩ = some (.slice A1 n1 c1) := fun w' h => h.cell (H.b1.cell 9)
    have t0 : ∀ w', KB w10 w' → w'.cell? ⟨w.heap.size + 1, 0, none⟩ = some (.int .i64 m2.tab) := fun w' h => h.cell (H.b2.cell 0)
    have t1 : ∀ w', KB w10 w' → w'.cell? ⟨w.heap.size + 1, 1, none⟩ = some (.int .i64 m2.kind) := fun w' h => h.cell (H.b2.cell 1)
    have t2 : ∀ w', KB w10 w' → w'.cell? ⟨w.heap.size + 1, 2, none⟩ = some (.string m2.key) := fun w' h => h.cell (H.b2.cell 2)
    have t3 : ∀ w', KB w10 w' → w'.cell? ⟨w.heap.size + 1, 3, none⟩ = some (.string m2.en) := fun w' h => h.cell (H.b2.cell 3)
    have t4 : ∀ w', KB w10 w' → w'.cell? ⟨w.heap.size + 1, 4, none⟩ = some (.string m2.val) := fun w' h => h.cell (H.b2.cell 4)
    have t5 : ∀ w', KB w10 w' → w'.cell? ⟨w.heap.size + 1, 5, none⟩ = some (.int .i64 m2.exp) := fun w' h => h.cell (H.b2.cell 5)
    have t6 : ∀ w', KB w10 w' → w'.cell? ⟨w.heap.size + 1, 6, none⟩ = some (.int .i64 m2.at_.1) := fun w' h => h.cell (H.b2.cell 6)
    have t7 : ∀ w', KB w10 w' → w'.cell? ⟨w.heap.size + 1, 7, none⟩ = some (.int .i64 m2.at_.2.1) := fun w' h => h.cell (H.b2.cell 7)
    have t8 : ∀ w', KB w10 w' → w'.cell? ⟨w.heap.size + 1, 8, none⟩ = some (.int .i64 m2.at_.2.2) := fun w' h => h.cell (H.b2.cell 8)
    have t9 : ∀ w', KB w10 w' → w'.cell? ⟨w.heap.size + 1, 9, none⟩ = some (.slice A2 n2 c2) := fun w' h => h.cell (H.b2.cell 9)
    have K1 : Hid (∀ w', KB w10 w' → Reads w' w'.heap.size 3 A1 n1 (m1.ov.flatMap sc)) := Lib.hid (fun w' h => ((HR1.out.below H.b).below (Below.mono h H.b.size)).more (Nat.le_trans H.b.size h.size))
    have K2 : Hid (∀ w', KB w10 w' → Reads w' w'.heap.size 3 A2 n2 (m2.ov.flatMap sc)) := Lib.hid (fun w' h => ((HR2.out.below H.b).below (Below.mono h H.b.size)).more (Nat.le_trans H.b.size h.size))
    have K3 : Hid (∀ w', KB w10 w' → Tabs w') := Lib.hid (fun w' h => HT.out.in_ (Nat.le_refl _) (H.b.trans (Below.mono h H.b.size)))
    have K4 : Hid (∀ w', KB w10 w' → Below w.heap.size w w') := Lib.hid (fun w' h => H.b.trans (Below.mono h H.b.size))
    have Z1 := Lib.hid (And.intro (show n1 ≤ 1000000000 by omega) HA1.out)
    have Z2 := Lib.hid (And.intro (show n2 ≤ 1000000000 by omega) HA2.out)
    have hss := sameM_selfO [m1, m2]
    clear H
    go_region_held3 (fun w' => KB w10 w') (first | assumption | exact KB.drew _ | exact KB.alloc (by assumption) _ | exact KB.then_ (by assumption) (by assumption)) (first
      | (go_at_call 31; refine (mut_Copies (some ⟨_, 0, none⟩) 2 2 [m1, m2] _ (rdm_two (e1 := ⟨m1, A1, n1, c1⟩) (e2 := ⟨m2, A2, n2, c2⟩) rfl (by first | exact Blk.new _ _ _ | exact blk2a _ _ _ _ | exact blk2b _ _ _ _) (K1.out _ (by assumption)) (K2.out _ (by assumption)) Z1.out Z2.out) (by decide)).mono ?_; rintro y u3 ⟨v3, rfl, O3, b3⟩; obtain ⟨A3, c3, rfl, -, -, R3⟩ := O3.rd; clear O3)
      | (go_at_call 17; refine (ref07_Same A3 (some ⟨_, 0, none⟩) 2 c3 2 2 [m1, m2] [m1, m2] _ (by first | exact R3 | exact R3.below ((Below.refl _ _).alloc (Nat.le_refl _) _)) (rdm_two (e1 := ⟨m1, A1, n1, c1⟩) (e2 := ⟨m2, A2, n2, c2⟩) rfl (by first | exact Blk.new _ _ _ | exact then2b b3 | exact then2a b3) (K1.out _ (by assumption)) (K2.out _ (by assumption)) Z1.out Z2.out) (by decide)).mono ?_; rw [hss]; rintro y u5 ⟨rfl, b5⟩)
      | (go_at_call 32; refine (alive07 _ (K3.out _ (by assumption))).mono ?_; rintro y u6 ⟨rfl, b6⟩))
    all_goals
      have hk9 : Below w.heap.size w _ := K4.out _ (by assumption)
      have HK9 := Lib.hid hk9
      go_wp2_with fail
      go_ret
      exact ⟨rfl, HK9.out⟩
end Go.Proofs.YthbhbechemnidaaDoor
