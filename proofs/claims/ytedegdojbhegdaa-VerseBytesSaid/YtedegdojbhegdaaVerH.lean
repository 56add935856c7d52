/- Contract of verse.Get: the version that bytes are of, and the fault. The bytes are at most 2^47. -/
import Derived.Test.YtedegdojbhegdaaVerP
import Derived.Test.YtedegdojbhegdaaRdrC
import Derived.Test.YtedegdojbhegdaaRows2
namespace Go.Proofs.Ytedegdojbhegdaa
open Go.RowKit Go.Sort

theorem reader_pNum (w : World) (g : Nat) (A : Option Addr) (n c : Nat) (L : List UInt8) (k : Nat) (why : Int) (h : Rd w g A n c L k why) :
    Calls Try.prog 39 #[.pointer (some ⟨g, 0, none⟩)] w (RdTo w g A n c L (.int .i64 (pNum L k why).1) (pNum L k why).2.1 (pNum L k why).2.2) := reader_Num w g A n c L k why h
theorem reader_pCnt (w : World) (g : Nat) (A : Option Addr) (n c : Nat) (L : List UInt8) (k : Nat) (why most : Int) (h : Rd w g A n c L k why) :
    Calls Try.prog 40 #[.pointer (some ⟨g, 0, none⟩), .int .i64 most] w (RdTo w g A n c L (.int .i64 (pCnt most L k why).1) (pCnt most L k why).2.1 (pCnt most L k why).2.2) := reader_Count w g A n c L k why most h
/-- 'a[i]' of an array by value whose elements have one cell each. -/
theorem run_index_cells {P : Program} (w : World) (t e : TypeId) (n : Nat) (cs : Array Value) (i : Nat) (x : Value) (h : P.underlying t = some (.array n e)) (hz : ∀ w, (sizeOf e).run P w = .ok 1 w) (hg : ∀ w, (isAgg e).run P w = .ok false w) (h1 : i < n) (hx : cs[i]? = some x) :
    (Instr.index t (.agg cs) (.int .i64 (i : Int))).run P w = .ok x w := by
  have hn : (0 ≤ (i : Int) ∧ (i : Int) < (n : Int)) := by omega
  simp [Instr.index, run_underlying h, asIntOf, hn, hz, hg, h1, hx, go_sem]
theorem ptrs_at (x0 x1 x2 : Value) (w : World) :
    (Instr.index 84 (.agg #[x0, x1, x2]) (.int .i64 0)).run Try.prog w = .ok x0 w ∧ (Instr.index 84 (.agg #[x0, x1, x2]) (.int .i64 1)).run Try.prog w = .ok x1 w ∧ (Instr.index 84 (.agg #[x0, x1, x2]) (.int .i64 2)).run Try.prog w = .ok x2 w := by
  have H := fun i x hi hx => run_index_cells (P := Try.prog) w 84 83 3 #[x0, x1, x2] i x Try.underlying84 (fun _ => by kernel_rfl) (fun _ => by kernel_rfl) hi hx
  exact ⟨H 0 _ (by decide) rfl, H 1 _ (by decide) rfl, H 2 _ (by decide) rfl⟩

theorem info_tab : (Try.prog.info? 71).map (fun i => (i.zero, i.size, i.bytes)) = some (some (.agg #[.int .i64 0, .bool false]), 2, 16) := by kernel_rfl
theorem tcV_one (t : Int × Bool) : ∀ u ∈ tc t, u.oneCell' = true := by
  intro u hu
  simp only [tc, List.mem_cons, List.mem_nil_iff, or_false] at hu
  rcases hu with rfl | rfl <;> rfl
/-- A row of tables that the call owns. -/
def OwnB (w : World) (base : Nat) (v : Value) (T : List (Int × Bool)) : Prop := w.ownsRow base 71 2 v T.length (T.flatMap tc)
theorem OwnB.lt {w : World} {base : Nat} {v : Value} {T : List (Int × Bool)} (h : OwnB w base v T) : ∀ k, v.ownBlock = some k → base ≤ k ∧ k < w.heap.size := World.ownsRow.lt h
theorem OwnB.grown {w w' : World} {base : Nat} {v : Value} {T : List (Int × Bool)} {row : Option Nat} (h : OwnB w base v T) (hg : w.grownBy w' row) (hr : ∀ q, row = some q → q < base) : OwnB w' base v T :=
  World.ownsRow.kept h hg (by
    cases e : v.ownBlock with
    | none => exact .inl rfl
    | some k => exact .inr (fun e2 => by have := (h.lt k e).1; have := hr k e2.symm; omega))
theorem OwnB.own {w : World} {base : Nat} {v : Value} {T : List (Int × Bool)} (h : OwnB w base v T) : w.ownsRow base 71 2 v T.length (T.flatMap tc) := h
theorem OwnB.reads {w : World} {base : Nat} {v : Value} {T : List (Int × Bool)} (h : OwnB w base v T) : ∃ A c, v = .slice A T.length c ∧ T.length ≤ c ∧ Reads w w.heap.size 2 A T.length (T.flatMap tc) := by
  obtain ⟨A, c, hv, hc, -, hx⟩ := own_form h
  refine ⟨A, c, hv, hc, ?_⟩
  have h' : w.ownsRow base 71 2 (.slice A T.length c) T.length (T.flatMap tc) := hv ▸ h
  exact Reads.of_own h'

/-- What Get hands back: the version and 0; or the zero one and the fault. -/
def GetTo (w : World) (L : List UInt8) (e : Ending) (w' : World) : Prop := Below w.heap.size w w' ∧
  (((vgAll L).2 = 0 ∧ ∃ (A : Option Addr) (c : Nat), e = .returned (.tuple #[.agg (verC (vgAll L).1 (.slice A (vgAll L).1.tabs.length c)), .int .i64 0]) ∧ (vgAll L).1.tabs.length ≤ c ∧ Reads w' w'.heap.size 2 A (vgAll L).1.tabs.length ((vgAll L).1.tabs.flatMap tc)) ∨
  ((vgAll L).2 ≠ 0 ∧ e = .returned (.tuple #[.agg #[.int .i64 0, .int .i64 0, .slice none 0 0, .int .i64 0, .int .i64 0, .int .i64 0, .int .i64 0, .int .i64 0, .int .i64 0, .int .i64 0, .int .i64 0, .int .i64 0, .bool false], .int .i64 (vgAll L).2])))

def z3 : Int × Int × Int := (0, 0, 0)
def GtRel (w : World) (g1 gx : Nat) (a1 a2 : Int) (A : Option Addr) (n c : Nat) (L : List UInt8) (m k3 : Nat) (y3 : Int) (vi : Value) (wr : World) : Prop :=
  ∃ (i k : Nat) (y : Int) (T : List (Int × Bool)) (x : Value), vi = .int .i64 i ∧ i ≤ m ∧ T.length = i ∧ Rd wr g1 A n c L k y ∧ Blk wr w.heap.size 26 #[.int .i64 0, .int .i64 0, .slice none 0 0, .int .i64 0, .int .i64 0, .int .i64 0, .int .i64 0, .int .i64 0, .int .i64 0, .int .i64 0, .int .i64 0, .int .i64 0, .bool false] ∧ Blk wr gx 26 (verC ⟨a1, a2, T, z3, z3, z3, false⟩ x) ∧ OwnB wr (gx + 1) x T ∧ Below w.heap.size w wr ∧
    pRep pTab m L k3 y3 = (T ++ (pRep pTab (m - i) L k y).1, (pRep pTab (m - i) L k y).2)
theorem gt_step {m i k k' : Nat} {y y' : Int} {L : List UInt8} {t : Int × Bool} (hi : i < m) (h : pTab L k y = (t, k', y')) : pRep pTab (m - i) L k y = (t :: (pRep pTab (m - (i + 1)) L k' y').1, (pRep pTab (m - (i + 1)) L k' y').2) := by
  have e : m - i = (m - (i + 1)) + 1 := by omega
  rw [e]
  show pThen pTab (fun a => pThen (pRep pTab (m - (i + 1))) fun l => pPure (a :: l)) L k y = _
  rw [pThen_eq h]
  rfl

set_option maxRecDepth 100000 in
set_option maxHeartbeats 8000000 in
theorem verse_Get (A : Option Addr) (n c : Nat) (L : List UInt8) (w : World) (hr : Reads w w.heap.size 1 A n (L.map vb)) (hnc : n ≤ c) (hn : n ≤ 140737488355400) :
    Calls Try.prog 12 #[.slice A n c] w (GetTo w L) := by
  have HR := Lib.hid hr
  have hll := hr.len
  have HLL := Lib.hid hll
  clear hr hll
  go_enter Try.func12, Try.ntmps12
  go_wp2_with fail
  have B0 := Blk.new w 26 #[.int .i64 0, .int .i64 0, .slice none 0 0, .int .i64 0, .int .i64 0, .int .i64 0, .int .i64 0, .int .i64 0, .int .i64 0, .int .i64 0, .int .i64 0, .int .i64 0, .bool false]
  have hB : Below w.heap.size w (w.alloc (.cells #[.int .i64 0, .int .i64 0, .slice none 0 0, .int .i64 0, .int .i64 0, .int .i64 0, .int .i64 0, .int .i64 0, .int .i64 0, .int .i64 0, .int .i64 0, .int .i64 0, .bool false] 26)) := (Below.refl _ _).alloc (Nat.le_refl _) _
  have hs0 : (w.alloc (.cells #[.int .i64 0, .int .i64 0, .slice none 0 0, .int .i64 0, .int .i64 0, .int .i64 0, .int .i64 0, .int .i64 0, .int .i64 0, .int .i64 0, .int .i64 0, .int .i64 0, .bool false] 26)).heap.size = w.heap.size + 1 := by simp
  change Calls _ _ _ (w.alloc (.cells #[.int .i64 0, .int .i64 0, .slice none 0 0, .int .i64 0, .int .i64 0, .int .i64 0, .int .i64 0, .int .i64 0, .int .i64 0, .int .i64 0, .int .i64 0, .int .i64 0, .bool false] 26)) _
  generalize w.alloc (.cells #[.int .i64 0, .int .i64 0, .slice none 0 0, .int .i64 0, .int .i64 0, .int .i64 0, .int .i64 0, .int .i64 0, .int .i64 0, .int .i64 0, .int .i64 0, .int .i64 0, .bool false] 26) = W0 at *
  refine (wire_New A n c W0).mono ?_
  rintro x w1 ⟨rfl, rfl⟩
  have R : Rd (W0.alloc (.cells #[.slice A n c, .int .i64 0, .int .i64 0] 119)) W0.heap.size A n c L 0 0 := ⟨Blk.new _ _ _, ((HR.out.below hB).more hB.size).alloc (Nat.le_refl _) _, Nat.zero_le _, hn, hnc⟩
  replace B0 := B0.alloc (.cells #[.slice A n c, .int .i64 0, .int .i64 0] 119)
  replace hB := hB.alloc hB.size (.cells #[.slice A n c, .int .i64 0, .int .i64 0] 119)
  generalize W0.alloc (.cells #[.slice A n c, .int .i64 0, .int .i64 0] 119) = W1 at *
  rw [hs0] at R ⊢
  clear hs0
  obtain ⟨a1, k1, y1, e9⟩ : ∃ a k' y', pNum L 0 0 = (a, k', y') := ⟨_, _, _, rfl⟩
  have C9 := Lib.hid (reader_pNum W1 (w.heap.size + 1) A n c L 0 0 R)
  rw [e9] at C9
  have E_a1 := Lib.hid e9
  clear e9 R
  go_wp2_with fail
  refine C9.out.mono ?_
  clear C9
  rintro x w2 ⟨rfl, R, g9⟩
  replace B0 := B0.grown g9 (by simp)
  replace hB := Below.grown hB g9 hB.size (fun q hq => by injection hq with hq; omega)
  clear g9
  obtain ⟨a2, k2, y2, e9⟩ : ∃ a k' y', pNum L k1 y1 = (a, k', y') := ⟨_, _, _, rfl⟩
  have C9 := Lib.hid (reader_pNum w2 (w.heap.size + 1) A n c L k1 y1 R)
  rw [e9] at C9
  have E_a2 := Lib.hid e9
  clear e9 R
  go_wp2_with fail
  refine C9.out.mono ?_
  clear C9
  rintro x w3 ⟨rfl, R, g9⟩
  replace B0 := B0.grown g9 (by simp)
  replace hB := Below.grown hB g9 hB.size (fun q hq => by injection hq with hq; omega)
  clear g9
  go_wp2_with fail
  have BX := Blk.new w3 26 (verC ⟨a1, a2, [], z3, z3, z3, false⟩ (.slice none 0 0))
  have hlt0 := B0.lt
  have hlt1 := R.blk.lt
  replace B0 := B0.alloc (.cells (verC ⟨a1, a2, [], z3, z3, z3, false⟩ (.slice none 0 0)) 26)
  replace R := R.alloc (.cells (verC ⟨a1, a2, [], z3, z3, z3, false⟩ (.slice none 0 0)) 26)
  replace hB := hB.alloc hB.size (.cells (verC ⟨a1, a2, [], z3, z3, z3, false⟩ (.slice none 0 0)) 26)
  change Calls _ _ _ (w3.alloc (.cells (verC ⟨a1, a2, [], z3, z3, z3, false⟩ (.slice none 0 0)) 26)) _
  generalize w3.alloc (.cells (verC ⟨a1, a2, [], z3, z3, z3, false⟩ (.slice none 0 0)) 26) = W2 at *
  generalize w3.heap.size = gx at *
  obtain ⟨cc, k3, y3, e9⟩ : ∃ a k' y', pCnt 64 L k2 y2 = (a, k', y') := ⟨_, _, _, rfl⟩
  have C9 := Lib.hid (reader_pCnt W2 (w.heap.size + 1) A n c L k2 y2 64 R)
  rw [e9] at C9
  have E_cc := Lib.hid e9
  clear e9 R
  refine C9.out.mono ?_
  clear C9
  rintro x w4 ⟨rfl, R, g9⟩
  replace B0 := B0.grown g9 (by simp)
  replace hB := Below.grown hB g9 hB.size (fun q hq => by injection hq with hq; omega)
  replace BX := BX.grown g9 (by intro e; injection e with e; omega)
  clear g9
  have hcb := cnt_bounds 64 (by decide) L k2 y2
  rw [E_cc.out] at hcb
  obtain ⟨m, hm⟩ : ∃ m : Nat, cc = m := ⟨cc.toNat, by simp only [] at hcb; omega⟩
  subst hm
  simp only [] at hcb
  go_wp2_with fail
  go_loopw [18] (fun v18 wr => GtRel w (w.heap.size + 1) gx a1 a2 A n c L m k3 y3 v18 wr) (fun v18 _ => m - (RowKit.intOf v18).toNat)
  case atStart => exact ⟨0, k3, y3, [], _, rfl, Nat.zero_le _, rfl, R, B0, BX, World.ownsRow_nil _ _ _ _, hB, by simp⟩
  case round =>
    clear R B0 BX hB
    obtain ⟨i, k, y, T, xv, rfl, hi, hT, R, B0, BX, hO, hB, hcg⟩ := hrel
    have HO := Lib.hid hO
    have HTL := Lib.hid hT
    have HCG := Lib.hid hcg
    clear hO hT hcg
    by_cases him : i < m
    · obtain ⟨a, ka, ya, ea⟩ : ∃ a k' y', pNum L k y = (a, k', y') := ⟨_, _, _, rfl⟩
      obtain ⟨b, kb, yb, eb⟩ : ∃ a k' y', pCnt 1 L ka ya = (a, k', y') := ⟨_, _, _, rfl⟩
      obtain ⟨qb, hqb⟩ : ∃ q, decide (b = 1) = q := ⟨_, rfl⟩
      have hbq : (b == 1) = qb := by rw [← hqb, Bool.eq_iff_iff]; simp
      have hst := gt_step him (pTab_eq ea eb)
      rw [hqb] at hst
      have HST := Lib.hid hst
      have HBQ := Lib.hid hbq
      have C1 := Lib.hid (reader_pNum wr.drew (w.heap.size + 1) A n c L k y (R.drewN 1))
      rw [ea] at C1
      have EB := Lib.hid eb
      clear ea hqb hst eb hbq
      go_upto_region 5 with fail
      have q0 : ∀ p : Kept (· = gx) wr.drew, p.v.cell? ⟨gx, 2, none⟩ = some xv := fun p => p.h.cell rfl (BX.drew.cell 2)
      refine wp_region_mixTk (M := []) (· = gx) 10 [0, 1, 2, 4, 3, 5, 6, 7, 8, 9] (by kernel_rfl) (by kernel_rfl) ?_
      iterate 4 (refine mix_calmDk rfl rfl ?_; go_big_quiet_step (fail); refine wpQuiet_nil ?_)
      refine mix_loudDk rfl (by kernel_rfl) rfl ?_
      intro K1 hK1
      have HK := Lib.hid hK1
      clear hK1 q0
      go_wp2_with fail
      refine (C1.out).mono ?_
      rintro x w5 ⟨rfl, R5, g5⟩
      have HG5 := Lib.hid g5
      have HR5 := Lib.hid R5
      clear R5 g5
      go_wp2_with fail
      refine HK.out _ _ (Stand.of_grown HG5.out (fun k hk hs => by injection hk with hk; omega)) ?_
      clear HK
      have BX5 := BX.drew.grown HG5.out (by intro e; injection e with e; omega)
      have B05 := B0.drew.grown HG5.out (by simp)
      have hB5 := Below.grown (below_drewN hB 1) HG5.out hB.size (fun q hq => by injection hq with hq; omega)
      have HO5 := Lib.hid (OwnB.grown (w := wr.drew) HO.out HG5.out (fun q hq => by injection hq with hq; omega))
      have C2 := Lib.hid (reader_pCnt w5 (w.heap.size + 1) A n c L ka ya 1 HR5.out)
      rw [EB.out] at C2
      clear C1 HO HG5 BX B0 hB
      refine mix_loudDk rfl (by kernel_rfl) rfl ?_
      intro K1 hK1
      have HK := Lib.hid hK1
      clear hK1 
      go_wp2_with fail
      refine (C2.out).mono ?_
      rintro x w6 ⟨rfl, R6, g6⟩
      have HG6 := Lib.hid g6
      have HR6 := Lib.hid R6
      clear R6 g6
      go_wp2_with fail
      refine HK.out _ _ (Stand.of_grown HG6.out (fun k hk hs => by injection hk with hk; omega)) ?_
      clear HK
      have BX6 := BX5.grown HG6.out (by intro e; injection e with e; omega)
      have B06 := B05.grown HG6.out (by simp)
      have hB6 := Below.grown hB5 HG6.out hB5.size (fun q hq => by injection hq with hq; omega)
      have HO6 := Lib.hid (HO5.out.grown HG6.out (fun q hq => by injection hq with hq; omega))
      have hbq := HBQ.out
      have hx6 := BX6.lt
      clear C2 HO5 HG6 BX5 B05 hB5 HR5 EB
      iterate 2 (refine mix_calmDk rfl rfl ?_; go_big_quiet_step (fail); refine wpQuiet_nil ?_)
      clear hbq
      refine mix_loudDk rfl (by kernel_rfl) rfl ?_
      intro K1 hK1
      have HK := Lib.hid hK1
      clear hK1 
      go_wp2_with fail
      refine HK.out _ _ ((Stand.refl _ _).alloc _) ?_
      clear HK
      refine mix_loudDk rfl (by kernel_rfl) rfl ?_
      intro K1 hK1
      have HK := Lib.hid hK1
      clear hK1 
      go_wp2_with (at_builtin; go_must (refine append_elem_a w6 #[.int .i64 a, .bool qb] (tc (a, qb)) rfl 71 rfl _ _ 22 rfl (gx + 1) 71 (.agg #[.int .i64 0, .bool false]) 2 16 Try.underlying22 info_tab rfl (by decide) xv T.length (T.flatMap tc) rfl HO6.out rfl (tcV_one _) rfl (by have := HTL.out; unfold maxLen; omega) (by have := HTL.out; omega) hx6 ?_); intro x7 w7 O7 G7)
      have HG7 := Lib.hid G7
      have HO7 := Lib.hid O7
      clear O7 G7
      refine HK.out _ _ (Stand.of_grown HG7.out (fun k hk hs => by have := (HO6.out.lt _ hk).1; omega)) ?_
      clear HK
      refine mix_endDk ?_
      have BX7 := (BX6.alloc (.cells #[.int .i64 a, .bool qb] 71)).grown HG7.out (fun e => by have := (HO6.out.lt _ e.symm).1; omega)
      have B07 := (B06.alloc (.cells #[.int .i64 a, .bool qb] 71)).grown HG7.out (fun e => by have := (HO6.out.lt _ e.symm).1; omega)
      have R7 := (HR6.out.alloc (.cells #[.int .i64 a, .bool qb] 71)).grown HG7.out (fun q hq => by have := (HO6.out.lt _ hq).1; omega)
      have hB7 := Below.grown (hB6.alloc hB6.size (.cells #[.int .i64 a, .bool qb] 71)) HG7.out (show w.heap.size ≤ (w6.alloc (.cells #[.int .i64 a, .bool qb] 71)).heap.size by rw [World.size_alloc]; omega) (fun q hq => by have := (HO6.out.lt _ hq).1; omega)
      obtain ⟨A9, c9, rfl, -, -, -⟩ := own_form HO7.out
      have f7 := BX7.frozen
      have c7 : w7.cell? ⟨gx, 2, none⟩ = some xv := BX7.cell 2
      clear BX6 B06 hB6 HR6 HO6 HG7 hx6
      go_wp2_with fail
      have hT1 : (T ++ [(a, qb)]).length = T.length + 1 := by simp
      have hTf : T.flatMap tc ++ tc (a, qb) = (T ++ [(a, qb)]).flatMap tc := by simp
      have HO8 := Lib.hid (World.ownsRow.kept HO7.out (only_set w7 gx 2 (.slice A9 (T.length + 1) c9)) (.inr (fun e => by have := (World.ownsRow.lt HO7.out _ e).1; omega)))
      have BX8 : Blk (w7.setCell ⟨gx, 2, none⟩ (.slice A9 (T.length + 1) c9)) gx 26 (verC ⟨a1, a2, T ++ [(a, qb)], z3, z3, z3, false⟩ (.slice A9 (T.length + 1) c9)) := BX7.set_ 2 _
      have B08 := B07.far (p := ⟨gx, 2, none⟩) (show w.heap.size ≠ gx by omega) (.slice A9 (T.length + 1) c9)
      have R8 := R7.grown (only_set w7 gx 2 (.slice A9 (T.length + 1) c9)) (fun q hq => by injection hq with hq; omega)
      have hB8 := hB7.setCell (p := ⟨gx, 2, none⟩) (show w.heap.size ≤ gx by omega) (.slice A9 (T.length + 1) c9)
      have HO9 : Hid (OwnB (w7.setCell ⟨gx, 2, none⟩ (.slice A9 (T.length + 1) c9)) (gx + 1) (.slice A9 (T.length + 1) c9) (T ++ [(a, qb)])) := Lib.hid (by unfold OwnB; rw [hT1, ← hTf]; exact HO8.out)
      have HC2 : Hid (pRep pTab m L k3 y3 = ((T ++ [(a, qb)]) ++ (pRep pTab (m - (i + 1)) L kb yb).1, (pRep pTab (m - (i + 1)) L kb yb).2)) := Lib.hid (by rw [HCG.out, HST.out]; simp)
      clear BX7 B07 R7 hB7 f7 c7 HO8 HO7 hT1 hTf HCG HST
      go_roundw
      case rel => exact ⟨i + 1, kb, yb, _, _, by go_num, by omega, by have := HTL.out; simp; omega, R8, B08, BX8, HO9.out, hB8, HC2.out⟩
      case measure => simp [RowKit.intOf]; omega
    · have him2 : i = m := by omega
      subst him2
      have HREP : Hid (pRep pTab i L k3 y3 = (T, k, y)) := Lib.hid (by
        have h := HCG.out
        rw [Nat.sub_self] at h
        rw [h]
        show (T ++ [], k, y) = _
        rw [List.append_nil])
      clear HCG
      have hix := fun w => ptrs_at (.pointer (some ⟨gx, 3, none⟩)) (.pointer (some ⟨gx, 6, none⟩)) (.pointer (some ⟨gx, 9, none⟩)) w
      have i0 := fun w => (hix w).1
      have i1 := fun w => (hix w).2.1
      have i2 := fun w => (hix w).2.2
      clear hix
      obtain ⟨A9, c9, rfl, hc9, -, -⟩ := own_form HO.out
      go_wp2_with fail
      refine wp_loop_rounds 4 ?_
      rw [rounds_succ]
      go_wp2_with fail
      obtain ⟨l0, kl0, yl0, e9⟩ : ∃ a k' y', pNum L k y = (a, k', y') := ⟨_, _, _, rfl⟩
      have C9 := Lib.hid (reader_pNum wr (w.heap.size + 1) A n c L k y R)
      rw [e9] at C9
      have E_l0 := Lib.hid e9
      clear e9 R
      refine C9.out.mono ?_
      clear C9
      rintro x ul0 ⟨rfl, R, g9⟩
      replace B0 := B0.grown g9 (by simp)
      replace hB := Below.grown hB g9 hB.size (fun q hq => by injection hq with hq; omega)
      replace BX := BX.grown g9 (by intro e; injection e with e; omega)
      replace HO := Lib.hid (HO.out.grown g9 (fun q hq => by injection hq with hq; omega))
      clear g9
      obtain ⟨l1, kl1, yl1, e9⟩ : ∃ a k' y', pNum L kl0 yl0 = (a, k', y') := ⟨_, _, _, rfl⟩
      have C9 := Lib.hid (reader_pNum ul0 (w.heap.size + 1) A n c L kl0 yl0 R)
      rw [e9] at C9
      have E_l1 := Lib.hid e9
      clear e9 R
      go_wp2_with fail
      refine C9.out.mono ?_
      clear C9
      rintro x ul1 ⟨rfl, R, g9⟩
      replace B0 := B0.grown g9 (by simp)
      replace hB := Below.grown hB g9 hB.size (fun q hq => by injection hq with hq; omega)
      replace BX := BX.grown g9 (by intro e; injection e with e; omega)
      replace HO := Lib.hid (HO.out.grown g9 (fun q hq => by injection hq with hq; omega))
      clear g9
      obtain ⟨l2, kl2, yl2, e9⟩ : ∃ a k' y', pNum L kl1 yl1 = (a, k', y') := ⟨_, _, _, rfl⟩
      have C9 := Lib.hid (reader_pNum ul1 (w.heap.size + 1) A n c L kl1 yl1 R)
      rw [e9] at C9
      have E_l2 := Lib.hid e9
      clear e9 R
      go_wp2_with fail
      refine C9.out.mono ?_
      clear C9
      rintro x ul2 ⟨rfl, R, g9⟩
      replace B0 := B0.grown g9 (by simp)
      replace hB := Below.grown hB g9 hB.size (fun q hq => by injection hq with hq; omega)
      replace BX := BX.grown g9 (by intro e; injection e with e; omega)
      replace HO := Lib.hid (HO.out.grown g9 (fun q hq => by injection hq with hq; omega))
      clear g9
      have fX := BX.frozen
      have cX0 : ul2.cell? ⟨gx, 3, none⟩ = some (.int .i64 0) := BX.cell 3
      have cX1 : ul2.cell? ⟨gx, 4, none⟩ = some (.int .i64 0) := BX.cell 4
      have cX2 : ul2.cell? ⟨gx, 5, none⟩ = some (.int .i64 0) := BX.cell 5
      go_wp2_with fail
      clear fX cX0 cX1 cX2
      have BX9 : Blk (((ul2.setCell ⟨gx, 3, none⟩ (.int .i64 l0)).setCell ⟨gx, 4, none⟩ (.int .i64 l1)).setCell ⟨gx, 5, none⟩ (.int .i64 l2)) gx 26 (verC ⟨a1, a2, T, (l0, l1, l2), z3, z3, false⟩ (.slice A9 T.length c9)) := ((BX.set_ 3 (.int .i64 l0)).set_ 4 (.int .i64 l1)).set_ 5 (.int .i64 l2)
      have G9 := (grown_trans' (grown_trans' (only_set ul2 gx 3 (.int .i64 l0)) (only_set _ gx 4 (.int .i64 l1))) (only_set _ gx 5 (.int .i64 l2)))
      replace B0 := B0.grown G9 (by intro e; injection e with e; omega)
      replace R := R.grown G9 (fun q hq => by injection hq with hq; omega)
      replace hB := Below.grown hB G9 hB.size (fun q hq => by injection hq with hq; omega)
      replace HO := Lib.hid (HO.out.grown G9 (fun q hq => by injection hq with hq; omega))
      clear BX G9
      have BX := BX9
      clear BX9
      generalize (((ul2.setCell ⟨gx, 3, none⟩ (.int .i64 l0)).setCell ⟨gx, 4, none⟩ (.int .i64 l1)).setCell ⟨gx, 5, none⟩ (.int .i64 l2)) = V0 at *
      rw [rounds_succ]
      go_wp2_with fail
      obtain ⟨e0, ke0, ye0, e9⟩ : ∃ a k' y', pNum L kl2 yl2 = (a, k', y') := ⟨_, _, _, rfl⟩
      have C9 := Lib.hid (reader_pNum V0 (w.heap.size + 1) A n c L kl2 yl2 R)
      rw [e9] at C9
      have E_e0 := Lib.hid e9
      clear e9 R
      refine C9.out.mono ?_
      clear C9
      rintro x ue0 ⟨rfl, R, g9⟩
      replace B0 := B0.grown g9 (by simp)
      replace hB := Below.grown hB g9 hB.size (fun q hq => by injection hq with hq; omega)
      replace BX := BX.grown g9 (by intro e; injection e with e; omega)
      replace HO := Lib.hid (HO.out.grown g9 (fun q hq => by injection hq with hq; omega))
      clear g9
      obtain ⟨e1, ke1, ye1, e9⟩ : ∃ a k' y', pNum L ke0 ye0 = (a, k', y') := ⟨_, _, _, rfl⟩
      have C9 := Lib.hid (reader_pNum ue0 (w.heap.size + 1) A n c L ke0 ye0 R)
      rw [e9] at C9
      have E_e1 := Lib.hid e9
      clear e9 R
      go_wp2_with fail
      refine C9.out.mono ?_
      clear C9
      rintro x ue1 ⟨rfl, R, g9⟩
      replace B0 := B0.grown g9 (by simp)
      replace hB := Below.grown hB g9 hB.size (fun q hq => by injection hq with hq; omega)
      replace BX := BX.grown g9 (by intro e; injection e with e; omega)
      replace HO := Lib.hid (HO.out.grown g9 (fun q hq => by injection hq with hq; omega))
      clear g9
      obtain ⟨e2, ke2, ye2, e9⟩ : ∃ a k' y', pNum L ke1 ye1 = (a, k', y') := ⟨_, _, _, rfl⟩
      have C9 := Lib.hid (reader_pNum ue1 (w.heap.size + 1) A n c L ke1 ye1 R)
      rw [e9] at C9
      have E_e2 := Lib.hid e9
      clear e9 R
      go_wp2_with fail
      refine C9.out.mono ?_
      clear C9
      rintro x ue2 ⟨rfl, R, g9⟩
      replace B0 := B0.grown g9 (by simp)
      replace hB := Below.grown hB g9 hB.size (fun q hq => by injection hq with hq; omega)
      replace BX := BX.grown g9 (by intro e; injection e with e; omega)
      replace HO := Lib.hid (HO.out.grown g9 (fun q hq => by injection hq with hq; omega))
      clear g9
      have fX := BX.frozen
      have cX0 : ue2.cell? ⟨gx, 6, none⟩ = some (.int .i64 0) := BX.cell 6
      have cX1 : ue2.cell? ⟨gx, 7, none⟩ = some (.int .i64 0) := BX.cell 7
      have cX2 : ue2.cell? ⟨gx, 8, none⟩ = some (.int .i64 0) := BX.cell 8
      go_wp2_with fail
      clear fX cX0 cX1 cX2
      have BX9 : Blk (((ue2.setCell ⟨gx, 6, none⟩ (.int .i64 e0)).setCell ⟨gx, 7, none⟩ (.int .i64 e1)).setCell ⟨gx, 8, none⟩ (.int .i64 e2)) gx 26 (verC ⟨a1, a2, T, (l0, l1, l2), (e0, e1, e2), z3, false⟩ (.slice A9 T.length c9)) := ((BX.set_ 6 (.int .i64 e0)).set_ 7 (.int .i64 e1)).set_ 8 (.int .i64 e2)
      have G9 := (grown_trans' (grown_trans' (only_set ue2 gx 6 (.int .i64 e0)) (only_set _ gx 7 (.int .i64 e1))) (only_set _ gx 8 (.int .i64 e2)))
      replace B0 := B0.grown G9 (by intro e; injection e with e; omega)
      replace R := R.grown G9 (fun q hq => by injection hq with hq; omega)
      replace hB := Below.grown hB G9 hB.size (fun q hq => by injection hq with hq; omega)
      replace HO := Lib.hid (HO.out.grown G9 (fun q hq => by injection hq with hq; omega))
      clear BX G9
      have BX := BX9
      clear BX9
      generalize (((ue2.setCell ⟨gx, 6, none⟩ (.int .i64 e0)).setCell ⟨gx, 7, none⟩ (.int .i64 e1)).setCell ⟨gx, 8, none⟩ (.int .i64 e2)) = V1 at *
      rw [rounds_succ]
      go_wp2_with fail
      obtain ⟨s0, ks0, ys0, e9⟩ : ∃ a k' y', pNum L ke2 ye2 = (a, k', y') := ⟨_, _, _, rfl⟩
      have C9 := Lib.hid (reader_pNum V1 (w.heap.size + 1) A n c L ke2 ye2 R)
      rw [e9] at C9
      have E_s0 := Lib.hid e9
      clear e9 R
      refine C9.out.mono ?_
      clear C9
      rintro x us0 ⟨rfl, R, g9⟩
      replace B0 := B0.grown g9 (by simp)
      replace hB := Below.grown hB g9 hB.size (fun q hq => by injection hq with hq; omega)
      replace BX := BX.grown g9 (by intro e; injection e with e; omega)
      replace HO := Lib.hid (HO.out.grown g9 (fun q hq => by injection hq with hq; omega))
      clear g9
      obtain ⟨s1, ks1, ys1, e9⟩ : ∃ a k' y', pNum L ks0 ys0 = (a, k', y') := ⟨_, _, _, rfl⟩
      have C9 := Lib.hid (reader_pNum us0 (w.heap.size + 1) A n c L ks0 ys0 R)
      rw [e9] at C9
      have E_s1 := Lib.hid e9
      clear e9 R
      go_wp2_with fail
      refine C9.out.mono ?_
      clear C9
      rintro x us1 ⟨rfl, R, g9⟩
      replace B0 := B0.grown g9 (by simp)
      replace hB := Below.grown hB g9 hB.size (fun q hq => by injection hq with hq; omega)
      replace BX := BX.grown g9 (by intro e; injection e with e; omega)
      replace HO := Lib.hid (HO.out.grown g9 (fun q hq => by injection hq with hq; omega))
      clear g9
      obtain ⟨s2, ks2, ys2, e9⟩ : ∃ a k' y', pNum L ks1 ys1 = (a, k', y') := ⟨_, _, _, rfl⟩
      have C9 := Lib.hid (reader_pNum us1 (w.heap.size + 1) A n c L ks1 ys1 R)
      rw [e9] at C9
      have E_s2 := Lib.hid e9
      clear e9 R
      go_wp2_with fail
      refine C9.out.mono ?_
      clear C9
      rintro x us2 ⟨rfl, R, g9⟩
      replace B0 := B0.grown g9 (by simp)
      replace hB := Below.grown hB g9 hB.size (fun q hq => by injection hq with hq; omega)
      replace BX := BX.grown g9 (by intro e; injection e with e; omega)
      replace HO := Lib.hid (HO.out.grown g9 (fun q hq => by injection hq with hq; omega))
      clear g9
      have fX := BX.frozen
      have cX0 : us2.cell? ⟨gx, 9, none⟩ = some (.int .i64 0) := BX.cell 9
      have cX1 : us2.cell? ⟨gx, 10, none⟩ = some (.int .i64 0) := BX.cell 10
      have cX2 : us2.cell? ⟨gx, 11, none⟩ = some (.int .i64 0) := BX.cell 11
      go_wp2_with fail
      clear fX cX0 cX1 cX2
      have BX9 : Blk (((us2.setCell ⟨gx, 9, none⟩ (.int .i64 s0)).setCell ⟨gx, 10, none⟩ (.int .i64 s1)).setCell ⟨gx, 11, none⟩ (.int .i64 s2)) gx 26 (verC ⟨a1, a2, T, (l0, l1, l2), (e0, e1, e2), (s0, s1, s2), false⟩ (.slice A9 T.length c9)) := ((BX.set_ 9 (.int .i64 s0)).set_ 10 (.int .i64 s1)).set_ 11 (.int .i64 s2)
      have G9 := (grown_trans' (grown_trans' (only_set us2 gx 9 (.int .i64 s0)) (only_set _ gx 10 (.int .i64 s1))) (only_set _ gx 11 (.int .i64 s2)))
      replace B0 := B0.grown G9 (by intro e; injection e with e; omega)
      replace R := R.grown G9 (fun q hq => by injection hq with hq; omega)
      replace hB := Below.grown hB G9 hB.size (fun q hq => by injection hq with hq; omega)
      replace HO := Lib.hid (HO.out.grown G9 (fun q hq => by injection hq with hq; omega))
      clear BX G9
      have BX := BX9
      clear BX9
      generalize (((us2.setCell ⟨gx, 9, none⟩ (.int .i64 s0)).setCell ⟨gx, 10, none⟩ (.int .i64 s1)).setCell ⟨gx, 11, none⟩ (.int .i64 s2)) = V2 at *
      rw [rounds_succ]
      go_wp2_with fail
      obtain ⟨qc, k8, y8, e9⟩ : ∃ a k' y', pCnt 1 L ks2 ys2 = (a, k', y') := ⟨_, _, _, rfl⟩
      have C9 := Lib.hid (reader_pCnt V2 (w.heap.size + 1) A n c L ks2 ys2 1 R)
      rw [e9] at C9
      have E_qc := Lib.hid e9
      clear e9 R
      refine C9.out.mono ?_
      clear C9
      rintro x u9 ⟨rfl, R, g9⟩
      replace B0 := B0.grown g9 (by simp)
      replace hB := Below.grown hB g9 hB.size (fun q hq => by injection hq with hq; omega)
      replace BX := BX.grown g9 (by intro e; injection e with e; omega)
      replace HO := Lib.hid (HO.out.grown g9 (fun q hq => by injection hq with hq; omega))
      clear g9
      have hq1 := cnt_bounds 1 (by decide) L ks2 ys2
      rw [E_qc.out] at hq1
      simp only [] at hq1
      obtain ⟨qb, hqb⟩ : ∃ q, decide (qc = 1) = q := ⟨_, rfl⟩
      have hbq : (qc == 1) = qb := by rw [← hqb, Bool.eq_iff_iff]; simp
      have HQB := Lib.hid hqb
      clear hqb i0 i1 i2
      have fX := BX.frozen
      have cX : u9.cell? ⟨gx, 12, none⟩ = some (.bool false) := BX.cell 12
      go_wp2_with fail
      clear fX cX hbq
      have BX9 : Blk (u9.setCell ⟨gx, 12, none⟩ (.bool qb)) gx 26 (verC ⟨a1, a2, T, (l0, l1, l2), (e0, e1, e2), (s0, s1, s2), qb⟩ (.slice A9 T.length c9)) := BX.set_ 12 (.bool qb)
      have G9 := only_set u9 gx 12 (.bool qb)
      replace B0 := B0.grown G9 (by intro e; injection e with e; omega)
      replace R := R.grown G9 (fun q hq => by injection hq with hq; omega)
      replace hB := Below.grown hB G9 hB.size (fun q hq => by injection hq with hq; omega)
      replace HO := Lib.hid (HO.out.grown G9 (fun q hq => by injection hq with hq; omega))
      clear BX G9
      have BX := BX9
      clear BX9
      generalize u9.setCell ⟨gx, 12, none⟩ (.bool qb) = V9 at *
      have HPV := Lib.hid (pVer_eq E_a1.out E_a2.out E_cc.out (by rw [Int.toNat_natCast]; exact HREP.out) (pSt_eq E_l0.out E_l1.out E_l2.out) (pSt_eq E_e0.out E_e1.out E_e2.out) (pSt_eq E_s0.out E_s1.out E_s2.out) E_qc.out)
      rw [HQB.out] at HPV
      obtain ⟨v, hv⟩ : ∃ v : Ver, (⟨a1, a2, T, (l0, l1, l2), (e0, e1, e2), (s0, s1, s2), qb⟩ : Ver) = v := ⟨_, rfl⟩
      have htv : v.tabs = T := by rw [← hv]
      have HTV := Lib.hid htv
      rw [hv] at HPV BX
      have HVG : Hid (vgAll L = (v, vgWhy L v k8 y8)) := Lib.hid (by unfold vgAll; rw [HPV.out])
      have HVW : Hid (vgWhy L v k8 y8 = (if 0 < n - k8 ∧ (if y8 = 0 ∧ vrtB v = false then (31 : Int) else y8) = 0 then 31 else if y8 = 0 ∧ vrtB v = false then 31 else y8)) := Lib.hid (by unfold vgWhy; rw [HLL.out])
      have HTX := Lib.hid (OwnB.own HO.out)
      rw [← htv] at HTX
      rw [← htv] at BX hc9
      clear HREP HPV htv HQB hv E_a1 E_a2 E_cc E_l0 E_l1 E_l2 E_e0 E_e1 E_e2 E_s0 E_s1 E_s2 E_qc HO
      go_wp2_with fail
      refine (reader_Why _ (w.heap.size + 1) A n c L k8 y8 R).mono ?_
      rintro x w9 ⟨rfl, rfl⟩
      have hkn8 := R.kn
      have htl : v.tabs.length ≤ 64 := by rw [HTV.out, HTL.out]; omega
      have HTB := Lib.hid htl
      clear htl
      by_cases hy8 : y8 = 0
      case neg =>
        have hye : (y8 == 0) = false := by simp [hy8]
        have hyn : (y8 != 0) = true := by simp [hy8]
        have HE : Hid ((vgAll L).2 = y8 ∧ y8 ≠ 0) := Lib.hid ⟨by rw [HVG.out]; show vgWhy L v k8 y8 = y8; rw [HVW.out]; simp [hy8], hy8⟩
        have hEn := Lib.hid (reader_End V9 (w.heap.size + 1) A n c L k8 y8 R)
        rw [show rEnd (n - k8) y8 = y8 by unfold rEnd; rw [if_neg (fun h => hy8 h.2)]] at hEn
        have HY8 := Lib.hid hy8
        clear R hy8
        go_wp2_with fail
        refine hEn.out.mono ?_
        clear hEn
        rintro x v9w ⟨rfl, R, g9⟩
        replace B0 := B0.grown g9 (by simp)
        replace hB := Below.grown hB g9 hB.size (fun q hq => by injection hq with hq; omega)
        clear g9
        have f0 := B0.frozen
        have c0 := B0.cell
        have zz := (((((((((((((B0.set_ 0 (.int .i64 0)).set_ 1 (.int .i64 0)).set_ 2 (.slice none 0 0)).set_ 3 (.int .i64 0)).set_ 4 (.int .i64 0)).set_ 5 (.int .i64 0)).set_ 6 (.int .i64 0)).set_ 7 (.int .i64 0)).set_ 8 (.int .i64 0)).set_ 9 (.int .i64 0)).set_ 10 (.int .i64 0)).set_ 11 (.int .i64 0)).set_ 12 (.bool false)).cell
        simp at zz
        go_wp2_with fail
        (try simp only [Exit.inBlock, Exit.then])
        refine bodyPost_ret (v := .tuple #[.agg #[.int .i64 0, .int .i64 0, .slice none 0 0, .int .i64 0, .int .i64 0, .int .i64 0, .int .i64 0, .int .i64 0, .int .i64 0, .int .i64 0, .int .i64 0, .int .i64 0, .bool false], .int .i64 y8]) (by simp [results, Try.results12, go_sem, zz]) rfl ⟨?_, .inr ⟨by rw [HE.out.1]; exact HE.out.2, by rw [HE.out.1]⟩⟩
        exact (((((((((((((hB.setCell (p := ⟨w.heap.size, 0, none⟩) (show w.heap.size ≤ w.heap.size from Nat.le_refl _) _).setCell (p := ⟨w.heap.size, 1, none⟩) (show w.heap.size ≤ w.heap.size from Nat.le_refl _) _).setCell (p := ⟨w.heap.size, 2, none⟩) (show w.heap.size ≤ w.heap.size from Nat.le_refl _) _).setCell (p := ⟨w.heap.size, 3, none⟩) (show w.heap.size ≤ w.heap.size from Nat.le_refl _) _).setCell (p := ⟨w.heap.size, 4, none⟩) (show w.heap.size ≤ w.heap.size from Nat.le_refl _) _).setCell (p := ⟨w.heap.size, 5, none⟩) (show w.heap.size ≤ w.heap.size from Nat.le_refl _) _).setCell (p := ⟨w.heap.size, 6, none⟩) (show w.heap.size ≤ w.heap.size from Nat.le_refl _) _).setCell (p := ⟨w.heap.size, 7, none⟩) (show w.heap.size ≤ w.heap.size from Nat.le_refl _) _).setCell (p := ⟨w.heap.size, 8, none⟩) (show w.heap.size ≤ w.heap.size from Nat.le_refl _) _).setCell (p := ⟨w.heap.size, 9, none⟩) (show w.heap.size ≤ w.heap.size from Nat.le_refl _) _).setCell (p := ⟨w.heap.size, 10, none⟩) (show w.heap.size ≤ w.heap.size from Nat.le_refl _) _).setCell (p := ⟨w.heap.size, 11, none⟩) (show w.heap.size ≤ w.heap.size from Nat.le_refl _) _).setCell (p := ⟨w.heap.size, 12, none⟩) (show w.heap.size ≤ w.heap.size from Nat.le_refl _) _)
      subst hy8
      have d0 : V9.cell? ⟨gx, 0, none⟩ = some (.int .i64 v.log) := BX.cell 0
      have d1 : V9.cell? ⟨gx, 1, none⟩ = some (.int .i64 v.next) := BX.cell 1
      have d2 : V9.cell? ⟨gx, 2, none⟩ = some (.slice A9 v.tabs.length c9) := BX.cell 2
      have d3 : V9.cell? ⟨gx, 3, none⟩ = some (.int .i64 v.fl.1) := BX.cell 3
      have d4 : V9.cell? ⟨gx, 4, none⟩ = some (.int .i64 v.fl.2.1) := BX.cell 4
      have d5 : V9.cell? ⟨gx, 5, none⟩ = some (.int .i64 v.fl.2.2) := BX.cell 5
      have d6 : V9.cell? ⟨gx, 6, none⟩ = some (.int .i64 v.fe.1) := BX.cell 6
      have d7 : V9.cell? ⟨gx, 7, none⟩ = some (.int .i64 v.fe.2.1) := BX.cell 7
      have d8 : V9.cell? ⟨gx, 8, none⟩ = some (.int .i64 v.fe.2.2) := BX.cell 8
      have d9 : V9.cell? ⟨gx, 9, none⟩ = some (.int .i64 v.se.1) := BX.cell 9
      have d10 : V9.cell? ⟨gx, 10, none⟩ = some (.int .i64 v.se.2.1) := BX.cell 10
      have d11 : V9.cell? ⟨gx, 11, none⟩ = some (.int .i64 v.se.2.2) := BX.cell 11
      have d12 : V9.cell? ⟨gx, 12, none⟩ = some (.bool v.quar) := BX.cell 12
      have CR := Lib.hid (verse_Right v A9 v.tabs.length c9 V9 (Reads.of_own HTX.out) (by have := HTB.out; omega) hc9)
      obtain ⟨rb, hrb⟩ : ∃ r, vrtB v = r := ⟨_, rfl⟩
      have HRB := Lib.hid hrb
      rw [hrb] at CR
      clear hrb
      go_wp2_with fail
      refine CR.out.mono ?_
      clear CR d0 d1 d2 d3 d4 d5 d6 d7 d8 d9 d10 d11 d12
      rintro x u10 ⟨rfl, b9⟩
      replace R := R.below b9
      replace B0 := B0.below b9 B0.lt
      replace BX := BX.below b9 BX.lt
      replace HTX := Lib.hid (own_below HTX.out b9)
      replace hB := hB.trans (b9.mono hB.size)
      clear b9
      cases rb
      case false =>
        have HE : Hid ((vgAll L).2 = 31 ∧ (31 : Int) ≠ 0) := Lib.hid ⟨by rw [HVG.out]; show vgWhy L v k8 0 = 31; rw [HVW.out, HRB.out]; simp, by decide⟩
        go_wp2_with fail
        refine (reader_Fail _ (w.heap.size + 1) A n c L k8 0 31 R).mono ?_
        rintro x w11 ⟨rfl, rfl⟩
        rw [if_pos rfl]
        replace R := R.fail 31
        replace B0 := B0.far (p := ⟨w.heap.size + 1, 2, none⟩) (by simp) (.int .i64 31)
        replace hB := hB.setCell (p := ⟨w.heap.size + 1, 2, none⟩) (by simp) (.int .i64 31)
        generalize u10.setCell ⟨w.heap.size + 1, 2, none⟩ (.int .i64 31) = V10 at *
        have hEn := Lib.hid (reader_End V10 (w.heap.size + 1) A n c L k8 31 R)
        rw [show rEnd (n - k8) 31 = 31 by unfold rEnd; rw [if_neg (by omega)]] at hEn
        clear R
        go_wp2_with fail
        refine hEn.out.mono ?_
        clear hEn
        rintro x u11 ⟨rfl, R, g9⟩
        replace B0 := B0.grown g9 (by simp)
        replace hB := Below.grown hB g9 hB.size (fun q hq => by injection hq with hq; omega)
        clear g9
        have f0 := B0.frozen
        have c0 := B0.cell
        have zz := (((((((((((((B0.set_ 0 (.int .i64 0)).set_ 1 (.int .i64 0)).set_ 2 (.slice none 0 0)).set_ 3 (.int .i64 0)).set_ 4 (.int .i64 0)).set_ 5 (.int .i64 0)).set_ 6 (.int .i64 0)).set_ 7 (.int .i64 0)).set_ 8 (.int .i64 0)).set_ 9 (.int .i64 0)).set_ 10 (.int .i64 0)).set_ 11 (.int .i64 0)).set_ 12 (.bool false)).cell
        simp at zz
        go_wp2_with fail
        (try simp only [Exit.inBlock, Exit.then])
        refine bodyPost_ret (v := .tuple #[.agg #[.int .i64 0, .int .i64 0, .slice none 0 0, .int .i64 0, .int .i64 0, .int .i64 0, .int .i64 0, .int .i64 0, .int .i64 0, .int .i64 0, .int .i64 0, .int .i64 0, .bool false], .int .i64 31]) (by simp [results, Try.results12, go_sem, zz]) rfl ⟨?_, .inr ⟨by rw [HE.out.1]; exact HE.out.2, by rw [HE.out.1]⟩⟩
        exact (((((((((((((hB.setCell (p := ⟨w.heap.size, 0, none⟩) (show w.heap.size ≤ w.heap.size from Nat.le_refl _) _).setCell (p := ⟨w.heap.size, 1, none⟩) (show w.heap.size ≤ w.heap.size from Nat.le_refl _) _).setCell (p := ⟨w.heap.size, 2, none⟩) (show w.heap.size ≤ w.heap.size from Nat.le_refl _) _).setCell (p := ⟨w.heap.size, 3, none⟩) (show w.heap.size ≤ w.heap.size from Nat.le_refl _) _).setCell (p := ⟨w.heap.size, 4, none⟩) (show w.heap.size ≤ w.heap.size from Nat.le_refl _) _).setCell (p := ⟨w.heap.size, 5, none⟩) (show w.heap.size ≤ w.heap.size from Nat.le_refl _) _).setCell (p := ⟨w.heap.size, 6, none⟩) (show w.heap.size ≤ w.heap.size from Nat.le_refl _) _).setCell (p := ⟨w.heap.size, 7, none⟩) (show w.heap.size ≤ w.heap.size from Nat.le_refl _) _).setCell (p := ⟨w.heap.size, 8, none⟩) (show w.heap.size ≤ w.heap.size from Nat.le_refl _) _).setCell (p := ⟨w.heap.size, 9, none⟩) (show w.heap.size ≤ w.heap.size from Nat.le_refl _) _).setCell (p := ⟨w.heap.size, 10, none⟩) (show w.heap.size ≤ w.heap.size from Nat.le_refl _) _).setCell (p := ⟨w.heap.size, 11, none⟩) (show w.heap.size ≤ w.heap.size from Nat.le_refl _) _).setCell (p := ⟨w.heap.size, 12, none⟩) (show w.heap.size ≤ w.heap.size from Nat.le_refl _) _)
      by_cases hl : 0 < n - k8
      case pos =>
        have HE : Hid ((vgAll L).2 = 31 ∧ (31 : Int) ≠ 0) := Lib.hid ⟨by rw [HVG.out]; show vgWhy L v k8 0 = 31; rw [HVW.out, HRB.out]; simp; omega, by decide⟩
        have hEn := Lib.hid (reader_End u10 (w.heap.size + 1) A n c L k8 0 R)
        rw [show rEnd (n - k8) 0 = 31 by unfold rEnd; rw [if_pos ⟨by omega, rfl⟩]] at hEn
        clear R
        go_wp2_with fail
        refine hEn.out.mono ?_
        clear hEn
        rintro x u11 ⟨rfl, R, g9⟩
        replace B0 := B0.grown g9 (by simp)
        replace hB := Below.grown hB g9 hB.size (fun q hq => by injection hq with hq; omega)
        clear g9 hl
        have f0 := B0.frozen
        have c0 := B0.cell
        have zz := (((((((((((((B0.set_ 0 (.int .i64 0)).set_ 1 (.int .i64 0)).set_ 2 (.slice none 0 0)).set_ 3 (.int .i64 0)).set_ 4 (.int .i64 0)).set_ 5 (.int .i64 0)).set_ 6 (.int .i64 0)).set_ 7 (.int .i64 0)).set_ 8 (.int .i64 0)).set_ 9 (.int .i64 0)).set_ 10 (.int .i64 0)).set_ 11 (.int .i64 0)).set_ 12 (.bool false)).cell
        simp at zz
        go_wp2_with fail
        (try simp only [Exit.inBlock, Exit.then])
        refine bodyPost_ret (v := .tuple #[.agg #[.int .i64 0, .int .i64 0, .slice none 0 0, .int .i64 0, .int .i64 0, .int .i64 0, .int .i64 0, .int .i64 0, .int .i64 0, .int .i64 0, .int .i64 0, .int .i64 0, .bool false], .int .i64 31]) (by simp [results, Try.results12, go_sem, zz]) rfl ⟨?_, .inr ⟨by rw [HE.out.1]; exact HE.out.2, by rw [HE.out.1]⟩⟩
        exact (((((((((((((hB.setCell (p := ⟨w.heap.size, 0, none⟩) (show w.heap.size ≤ w.heap.size from Nat.le_refl _) _).setCell (p := ⟨w.heap.size, 1, none⟩) (show w.heap.size ≤ w.heap.size from Nat.le_refl _) _).setCell (p := ⟨w.heap.size, 2, none⟩) (show w.heap.size ≤ w.heap.size from Nat.le_refl _) _).setCell (p := ⟨w.heap.size, 3, none⟩) (show w.heap.size ≤ w.heap.size from Nat.le_refl _) _).setCell (p := ⟨w.heap.size, 4, none⟩) (show w.heap.size ≤ w.heap.size from Nat.le_refl _) _).setCell (p := ⟨w.heap.size, 5, none⟩) (show w.heap.size ≤ w.heap.size from Nat.le_refl _) _).setCell (p := ⟨w.heap.size, 6, none⟩) (show w.heap.size ≤ w.heap.size from Nat.le_refl _) _).setCell (p := ⟨w.heap.size, 7, none⟩) (show w.heap.size ≤ w.heap.size from Nat.le_refl _) _).setCell (p := ⟨w.heap.size, 8, none⟩) (show w.heap.size ≤ w.heap.size from Nat.le_refl _) _).setCell (p := ⟨w.heap.size, 9, none⟩) (show w.heap.size ≤ w.heap.size from Nat.le_refl _) _).setCell (p := ⟨w.heap.size, 10, none⟩) (show w.heap.size ≤ w.heap.size from Nat.le_refl _) _).setCell (p := ⟨w.heap.size, 11, none⟩) (show w.heap.size ≤ w.heap.size from Nat.le_refl _) _).setCell (p := ⟨w.heap.size, 12, none⟩) (show w.heap.size ≤ w.heap.size from Nat.le_refl _) _)
      have HE : Hid ((vgAll L).2 = 0) := Lib.hid (by rw [HVG.out]; show vgWhy L v k8 0 = 0; rw [HVW.out, HRB.out]; simp; omega)
      have hEn := Lib.hid (reader_End u10 (w.heap.size + 1) A n c L k8 0 R)
      rw [show rEnd (n - k8) 0 = 0 by unfold rEnd; rw [if_neg (by omega)]] at hEn
      clear R
      go_wp2_with fail
      refine hEn.out.mono ?_
      clear hEn
      rintro x u11 ⟨rfl, R, g9⟩
      replace B0 := B0.grown g9 (by simp)
      replace hB := Below.grown hB g9 hB.size (fun q hq => by injection hq with hq; omega)
      replace BX := BX.grown g9 (by intro e; injection e with e; omega)
      replace HTX := Lib.hid (World.ownsRow.kept HTX.out g9 (.inr (fun e => by have := (World.ownsRow.lt HTX.out _ e).1; omega)))
      clear g9 hl
      have f0 := B0.frozen
      have c0 := B0.cell
      have d0 : u11.cell? ⟨gx, 0, none⟩ = some (.int .i64 v.log) := BX.cell 0
      have d1 : u11.cell? ⟨gx, 1, none⟩ = some (.int .i64 v.next) := BX.cell 1
      have d2 : u11.cell? ⟨gx, 2, none⟩ = some (.slice A9 v.tabs.length c9) := BX.cell 2
      have d3 : u11.cell? ⟨gx, 3, none⟩ = some (.int .i64 v.fl.1) := BX.cell 3
      have d4 : u11.cell? ⟨gx, 4, none⟩ = some (.int .i64 v.fl.2.1) := BX.cell 4
      have d5 : u11.cell? ⟨gx, 5, none⟩ = some (.int .i64 v.fl.2.2) := BX.cell 5
      have d6 : u11.cell? ⟨gx, 6, none⟩ = some (.int .i64 v.fe.1) := BX.cell 6
      have d7 : u11.cell? ⟨gx, 7, none⟩ = some (.int .i64 v.fe.2.1) := BX.cell 7
      have d8 : u11.cell? ⟨gx, 8, none⟩ = some (.int .i64 v.fe.2.2) := BX.cell 8
      have d9 : u11.cell? ⟨gx, 9, none⟩ = some (.int .i64 v.se.1) := BX.cell 9
      have d10 : u11.cell? ⟨gx, 10, none⟩ = some (.int .i64 v.se.2.1) := BX.cell 10
      have d11 : u11.cell? ⟨gx, 11, none⟩ = some (.int .i64 v.se.2.2) := BX.cell 11
      have d12 : u11.cell? ⟨gx, 12, none⟩ = some (.bool v.quar) := BX.cell 12
      have zz := (((((((((((((B0.set_ 0 (.int .i64 v.log)).set_ 1 (.int .i64 v.next)).set_ 2 (.slice A9 v.tabs.length c9)).set_ 3 (.int .i64 v.fl.1)).set_ 4 (.int .i64 v.fl.2.1)).set_ 5 (.int .i64 v.fl.2.2)).set_ 6 (.int .i64 v.fe.1)).set_ 7 (.int .i64 v.fe.2.1)).set_ 8 (.int .i64 v.fe.2.2)).set_ 9 (.int .i64 v.se.1)).set_ 10 (.int .i64 v.se.2.1)).set_ 11 (.int .i64 v.se.2.2)).set_ 12 (.bool v.quar)).cell
      simp at zz
      go_wp2_with fail
      (try simp only [Exit.inBlock, Exit.then])
      refine bodyPost_ret (v := .tuple #[.agg (verC v (.slice A9 v.tabs.length c9)), .int .i64 0]) (by simp [results, Try.results12, go_sem, zz, verC]) rfl ⟨?_, .inl ⟨HE.out, A9, c9, ?_, ?_, ?_⟩⟩
      · exact (((((((((((((hB.setCell (p := ⟨w.heap.size, 0, none⟩) (show w.heap.size ≤ w.heap.size from Nat.le_refl _) _).setCell (p := ⟨w.heap.size, 1, none⟩) (show w.heap.size ≤ w.heap.size from Nat.le_refl _) _).setCell (p := ⟨w.heap.size, 2, none⟩) (show w.heap.size ≤ w.heap.size from Nat.le_refl _) _).setCell (p := ⟨w.heap.size, 3, none⟩) (show w.heap.size ≤ w.heap.size from Nat.le_refl _) _).setCell (p := ⟨w.heap.size, 4, none⟩) (show w.heap.size ≤ w.heap.size from Nat.le_refl _) _).setCell (p := ⟨w.heap.size, 5, none⟩) (show w.heap.size ≤ w.heap.size from Nat.le_refl _) _).setCell (p := ⟨w.heap.size, 6, none⟩) (show w.heap.size ≤ w.heap.size from Nat.le_refl _) _).setCell (p := ⟨w.heap.size, 7, none⟩) (show w.heap.size ≤ w.heap.size from Nat.le_refl _) _).setCell (p := ⟨w.heap.size, 8, none⟩) (show w.heap.size ≤ w.heap.size from Nat.le_refl _) _).setCell (p := ⟨w.heap.size, 9, none⟩) (show w.heap.size ≤ w.heap.size from Nat.le_refl _) _).setCell (p := ⟨w.heap.size, 10, none⟩) (show w.heap.size ≤ w.heap.size from Nat.le_refl _) _).setCell (p := ⟨w.heap.size, 11, none⟩) (show w.heap.size ≤ w.heap.size from Nat.le_refl _) _).setCell (p := ⟨w.heap.size, 12, none⟩) (show w.heap.size ≤ w.heap.size from Nat.le_refl _) _)
      · rw [HVG.out]
      · rw [HVG.out]; exact hc9
      · rw [HVG.out]
        exact Reads.of_own (World.ownsRow.kept HTX.out (grown_trans' (grown_trans' (grown_trans' (grown_trans' (grown_trans' (grown_trans' (grown_trans' (grown_trans' (grown_trans' (grown_trans' (grown_trans' (grown_trans' (only_set u11 w.heap.size 0 _) (only_set _ w.heap.size 1 _)) (only_set _ w.heap.size 2 _)) (only_set _ w.heap.size 3 _)) (only_set _ w.heap.size 4 _)) (only_set _ w.heap.size 5 _)) (only_set _ w.heap.size 6 _)) (only_set _ w.heap.size 7 _)) (only_set _ w.heap.size 8 _)) (only_set _ w.heap.size 9 _)) (only_set _ w.heap.size 10 _)) (only_set _ w.heap.size 11 _)) (only_set _ w.heap.size 12 _)) (.inr (fun e => by have := (World.ownsRow.lt HTX.out _ e).1; omega)))
end Go.Proofs.Ytedegdojbhegdaa
