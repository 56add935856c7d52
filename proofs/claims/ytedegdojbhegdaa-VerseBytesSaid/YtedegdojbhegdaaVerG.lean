/- Contract of the law's mine: a version as the document has it. -/
import Derived.Test.YtedegdojbhegdaaVerD
import Derived.Test.YtedegdojbhegdaaRows2
import Derived.Test.YtedegdojbhegdaaRdr
namespace Go.Proofs.Ytedegdojbhegdaa
open Go.RowKit Go.Sort

theorem info_refT : (Try.prog.info? 78).map (fun i => (i.zero, i.size, i.bytes)) = some (some (.agg #[.int .i64 0, .bool false]), 2, 16) := by kernel_rfl
theorem tc_one (t : Int × Bool) : ∀ u ∈ tc t, u.oneCell' = true := by
  intro u hu
  simp only [tc, List.mem_cons, List.mem_nil_iff, or_false] at hu
  rcases hu with rfl | rfl <;> rfl
/-- A row of tables that the call owns. -/
def OwnT (w : World) (base : Nat) (v : Value) (T : List (Int × Bool)) : Prop := w.ownsRow base 78 2 v T.length (T.flatMap tc)
theorem OwnT.lt {w : World} {base : Nat} {v : Value} {T : List (Int × Bool)} (h : OwnT w base v T) : ∀ k, v.ownBlock = some k → base ≤ k ∧ k < w.heap.size := World.ownsRow.lt h
theorem OwnT.reads {w : World} {base : Nat} {v : Value} {T : List (Int × Bool)} (h : OwnT w base v T) : ∃ A c, v = .slice A T.length c ∧ T.length ≤ c ∧ Reads w w.heap.size 2 A T.length (T.flatMap tc) := by
  obtain ⟨A, c, hv, hc, -, hx⟩ := own_form h
  refine ⟨A, c, hv, hc, ?_⟩
  have h' : w.ownsRow base 78 2 (.slice A T.length c) T.length (T.flatMap tc) := hv ▸ h
  exact Reads.of_own h'
theorem take_tc (T : List (Int × Bool)) (k : Nat) (hk : k < T.length) : (T.take (k + 1)).flatMap tc = (T.take k).flatMap tc ++ tc T[k] := by
  rw [List.take_succ_eq_append_getElem hk, List.flatMap_append]
  simp
/-- What mine hands back. -/
def MineTo (w : World) (v : Ver) (e : Ending) (w' : World) : Prop := ∃ (A : Option Addr) (c : Nat), e = .returned (.agg (verC v (.slice A v.tabs.length c))) ∧ v.tabs.length ≤ c ∧ Reads w' w'.heap.size 2 A v.tabs.length (v.tabs.flatMap tc) ∧ Below w.heap.size w w'

/-- What mine hands back, with the row that it made. -/
def MineOwn (w : World) (v : Ver) (e : Ending) (w' : World) : Prop := ∃ (A : Option Addr) (c : Nat), e = .returned (.agg (verC v (.slice A v.tabs.length c))) ∧ v.tabs.length ≤ c ∧ OwnT w' (w.heap.size + 3) (.slice A v.tabs.length c) v.tabs ∧ Below w.heap.size w w'
theorem stand_ownT {N : Nat} {w w2 : World} {v : Value} {T : List (Int × Bool)} (hO : OwnT w N v T) (h : w.grownBy w2 v.ownBlock) : Stand (· < N) w w2 :=
  Stand.of_grown h fun k hk hs => by have := (hO.lt k hk).1; omega
def MnRel (w : World) (v : Ver) (tv : Value) (z : Array Value) (v4 : Value) (wr : World) : Prop :=
  ∃ (k : Nat) (x : Value), v4 = .int .i64 k ∧ k ≤ v.tabs.length ∧ Blk wr w.heap.size 26 (verC v tv) ∧ Blk wr (w.heap.size + 1) 29 z ∧ Blk wr (w.heap.size + 1 + 1) 29 (verC v x) ∧ OwnT wr (w.heap.size + 3) x (v.tabs.take k) ∧ Below w.heap.size w wr

set_option maxRecDepth 100000 in
set_option maxHeartbeats 4000000 in
theorem law17_mineO (v : Ver) (A : Option Addr) (n c : Nat) (w : World) (hr : Reads w w.heap.size 2 A n (v.tabs.flatMap tc)) (hn : n ≤ 100000) :
    Calls Try.prog 8 #[.agg (verC v (.slice A n c))] w (MineOwn w v) := by
  have hll := tabs_n hr
  have B0 := ((Blk.new w 26 (verC v (.slice A n c))).alloc (.cells #[.int .i64 0, .int .i64 0, .slice none 0 0, .int .i64 0, .int .i64 0, .int .i64 0, .int .i64 0, .int .i64 0, .int .i64 0, .int .i64 0, .int .i64 0, .int .i64 0, .bool false] 29)).alloc (.cells (verC v (.slice none 0 0)) 29)
  have B1 := (Blk.new (w.alloc (.cells (verC v (.slice A n c)) 26)) 29 #[.int .i64 0, .int .i64 0, .slice none 0 0, .int .i64 0, .int .i64 0, .int .i64 0, .int .i64 0, .int .i64 0, .int .i64 0, .int .i64 0, .int .i64 0, .int .i64 0, .bool false]).alloc (.cells (verC v (.slice none 0 0)) 29)
  have B2 := Blk.new ((w.alloc (.cells (verC v (.slice A n c)) 26)).alloc (.cells #[.int .i64 0, .int .i64 0, .slice none 0 0, .int .i64 0, .int .i64 0, .int .i64 0, .int .i64 0, .int .i64 0, .int .i64 0, .int .i64 0, .int .i64 0, .int .i64 0, .bool false] 29)) 29 (verC v (.slice none 0 0))
  have hB : Below w.heap.size w (((w.alloc (.cells (verC v (.slice A n c)) 26)).alloc (.cells #[.int .i64 0, .int .i64 0, .slice none 0 0, .int .i64 0, .int .i64 0, .int .i64 0, .int .i64 0, .int .i64 0, .int .i64 0, .int .i64 0, .int .i64 0, .int .i64 0, .bool false] 29)).alloc (.cells (verC v (.slice none 0 0)) 29)) := (((Below.refl _ _).alloc (Nat.le_refl _) _).alloc (by simp) _).alloc (by simp; omega) _
  have C0 := Blk.new w 26 (verC v (.slice A n c))
  have q0 : ((w.alloc (.cells (verC v (.slice A n c)) 26)).alloc (.cells #[.int .i64 0, .int .i64 0, .slice none 0 0, .int .i64 0, .int .i64 0, .int .i64 0, .int .i64 0, .int .i64 0, .int .i64 0, .int .i64 0, .int .i64 0, .int .i64 0, .bool false] 29)).cell? ⟨w.heap.size, 0, none⟩ = some (.int .i64 v.log) := (C0.alloc (.cells #[.int .i64 0, .int .i64 0, .slice none 0 0, .int .i64 0, .int .i64 0, .int .i64 0, .int .i64 0, .int .i64 0, .int .i64 0, .int .i64 0, .int .i64 0, .int .i64 0, .bool false] 29)).cell 0
  have q1 : ((w.alloc (.cells (verC v (.slice A n c)) 26)).alloc (.cells #[.int .i64 0, .int .i64 0, .slice none 0 0, .int .i64 0, .int .i64 0, .int .i64 0, .int .i64 0, .int .i64 0, .int .i64 0, .int .i64 0, .int .i64 0, .int .i64 0, .bool false] 29)).cell? ⟨w.heap.size, 1, none⟩ = some (.int .i64 v.next) := (C0.alloc (.cells #[.int .i64 0, .int .i64 0, .slice none 0 0, .int .i64 0, .int .i64 0, .int .i64 0, .int .i64 0, .int .i64 0, .int .i64 0, .int .i64 0, .int .i64 0, .int .i64 0, .bool false] 29)).cell 1
  have q3 : ((w.alloc (.cells (verC v (.slice A n c)) 26)).alloc (.cells #[.int .i64 0, .int .i64 0, .slice none 0 0, .int .i64 0, .int .i64 0, .int .i64 0, .int .i64 0, .int .i64 0, .int .i64 0, .int .i64 0, .int .i64 0, .int .i64 0, .bool false] 29)).cell? ⟨w.heap.size, 3, none⟩ = some (.int .i64 v.fl.1) := (C0.alloc (.cells #[.int .i64 0, .int .i64 0, .slice none 0 0, .int .i64 0, .int .i64 0, .int .i64 0, .int .i64 0, .int .i64 0, .int .i64 0, .int .i64 0, .int .i64 0, .int .i64 0, .bool false] 29)).cell 3
  have q4 : ((w.alloc (.cells (verC v (.slice A n c)) 26)).alloc (.cells #[.int .i64 0, .int .i64 0, .slice none 0 0, .int .i64 0, .int .i64 0, .int .i64 0, .int .i64 0, .int .i64 0, .int .i64 0, .int .i64 0, .int .i64 0, .int .i64 0, .bool false] 29)).cell? ⟨w.heap.size, 4, none⟩ = some (.int .i64 v.fl.2.1) := (C0.alloc (.cells #[.int .i64 0, .int .i64 0, .slice none 0 0, .int .i64 0, .int .i64 0, .int .i64 0, .int .i64 0, .int .i64 0, .int .i64 0, .int .i64 0, .int .i64 0, .int .i64 0, .bool false] 29)).cell 4
  have q5 : ((w.alloc (.cells (verC v (.slice A n c)) 26)).alloc (.cells #[.int .i64 0, .int .i64 0, .slice none 0 0, .int .i64 0, .int .i64 0, .int .i64 0, .int .i64 0, .int .i64 0, .int .i64 0, .int .i64 0, .int .i64 0, .int .i64 0, .bool false] 29)).cell? ⟨w.heap.size, 5, none⟩ = some (.int .i64 v.fl.2.2) := (C0.alloc (.cells #[.int .i64 0, .int .i64 0, .slice none 0 0, .int .i64 0, .int .i64 0, .int .i64 0, .int .i64 0, .int .i64 0, .int .i64 0, .int .i64 0, .int .i64 0, .int .i64 0, .bool false] 29)).cell 5
  have q6 : ((w.alloc (.cells (verC v (.slice A n c)) 26)).alloc (.cells #[.int .i64 0, .int .i64 0, .slice none 0 0, .int .i64 0, .int .i64 0, .int .i64 0, .int .i64 0, .int .i64 0, .int .i64 0, .int .i64 0, .int .i64 0, .int .i64 0, .bool false] 29)).cell? ⟨w.heap.size, 6, none⟩ = some (.int .i64 v.fe.1) := (C0.alloc (.cells #[.int .i64 0, .int .i64 0, .slice none 0 0, .int .i64 0, .int .i64 0, .int .i64 0, .int .i64 0, .int .i64 0, .int .i64 0, .int .i64 0, .int .i64 0, .int .i64 0, .bool false] 29)).cell 6
  have q7 : ((w.alloc (.cells (verC v (.slice A n c)) 26)).alloc (.cells #[.int .i64 0, .int .i64 0, .slice none 0 0, .int .i64 0, .int .i64 0, .int .i64 0, .int .i64 0, .int .i64 0, .int .i64 0, .int .i64 0, .int .i64 0, .int .i64 0, .bool false] 29)).cell? ⟨w.heap.size, 7, none⟩ = some (.int .i64 v.fe.2.1) := (C0.alloc (.cells #[.int .i64 0, .int .i64 0, .slice none 0 0, .int .i64 0, .int .i64 0, .int .i64 0, .int .i64 0, .int .i64 0, .int .i64 0, .int .i64 0, .int .i64 0, .int .i64 0, .bool false] 29)).cell 7
  have q8 : ((w.alloc (.cells (verC v (.slice A n c)) 26)).alloc (.cells #[.int .i64 0, .int .i64 0, .slice none 0 0, .int .i64 0, .int .i64 0, .int .i64 0, .int .i64 0, .int .i64 0, .int .i64 0, .int .i64 0, .int .i64 0, .int .i64 0, .bool false] 29)).cell? ⟨w.heap.size, 8, none⟩ = some (.int .i64 v.fe.2.2) := (C0.alloc (.cells #[.int .i64 0, .int .i64 0, .slice none 0 0, .int .i64 0, .int .i64 0, .int .i64 0, .int .i64 0, .int .i64 0, .int .i64 0, .int .i64 0, .int .i64 0, .int .i64 0, .bool false] 29)).cell 8
  have q9 : ((w.alloc (.cells (verC v (.slice A n c)) 26)).alloc (.cells #[.int .i64 0, .int .i64 0, .slice none 0 0, .int .i64 0, .int .i64 0, .int .i64 0, .int .i64 0, .int .i64 0, .int .i64 0, .int .i64 0, .int .i64 0, .int .i64 0, .bool false] 29)).cell? ⟨w.heap.size, 9, none⟩ = some (.int .i64 v.se.1) := (C0.alloc (.cells #[.int .i64 0, .int .i64 0, .slice none 0 0, .int .i64 0, .int .i64 0, .int .i64 0, .int .i64 0, .int .i64 0, .int .i64 0, .int .i64 0, .int .i64 0, .int .i64 0, .bool false] 29)).cell 9
  have q10 : ((w.alloc (.cells (verC v (.slice A n c)) 26)).alloc (.cells #[.int .i64 0, .int .i64 0, .slice none 0 0, .int .i64 0, .int .i64 0, .int .i64 0, .int .i64 0, .int .i64 0, .int .i64 0, .int .i64 0, .int .i64 0, .int .i64 0, .bool false] 29)).cell? ⟨w.heap.size, 10, none⟩ = some (.int .i64 v.se.2.1) := (C0.alloc (.cells #[.int .i64 0, .int .i64 0, .slice none 0 0, .int .i64 0, .int .i64 0, .int .i64 0, .int .i64 0, .int .i64 0, .int .i64 0, .int .i64 0, .int .i64 0, .int .i64 0, .bool false] 29)).cell 10
  have q11 : ((w.alloc (.cells (verC v (.slice A n c)) 26)).alloc (.cells #[.int .i64 0, .int .i64 0, .slice none 0 0, .int .i64 0, .int .i64 0, .int .i64 0, .int .i64 0, .int .i64 0, .int .i64 0, .int .i64 0, .int .i64 0, .int .i64 0, .bool false] 29)).cell? ⟨w.heap.size, 11, none⟩ = some (.int .i64 v.se.2.2) := (C0.alloc (.cells #[.int .i64 0, .int .i64 0, .slice none 0 0, .int .i64 0, .int .i64 0, .int .i64 0, .int .i64 0, .int .i64 0, .int .i64 0, .int .i64 0, .int .i64 0, .int .i64 0, .bool false] 29)).cell 11
  have q12 : ((w.alloc (.cells (verC v (.slice A n c)) 26)).alloc (.cells #[.int .i64 0, .int .i64 0, .slice none 0 0, .int .i64 0, .int .i64 0, .int .i64 0, .int .i64 0, .int .i64 0, .int .i64 0, .int .i64 0, .int .i64 0, .int .i64 0, .bool false] 29)).cell? ⟨w.heap.size, 12, none⟩ = some (.bool v.quar) := (C0.alloc (.cells #[.int .i64 0, .int .i64 0, .slice none 0 0, .int .i64 0, .int .i64 0, .int .i64 0, .int .i64 0, .int .i64 0, .int .i64 0, .int .i64 0, .int .i64 0, .int .i64 0, .bool false] 29)).cell 12
  have HR := Lib.hid hr
  have HLL := Lib.hid hll
  simp only [World.size_alloc] at B1 B2
  clear hr hll C0
  go_enter Try.func8, Try.ntmps8
  go_wp2_with fail
  clear q0 q1 q3 q4 q5 q6 q7 q8 q9 q10 q11 q12
  change Code.wp _ _ _ _ (((w.alloc (.cells (verC v (.slice A n c)) 26)).alloc (.cells #[.int .i64 0, .int .i64 0, .slice none 0 0, .int .i64 0, .int .i64 0, .int .i64 0, .int .i64 0, .int .i64 0, .int .i64 0, .int .i64 0, .int .i64 0, .int .i64 0, .bool false] 29)).alloc (.cells (verC v (.slice none 0 0)) 29))
  generalize (((w.alloc (.cells (verC v (.slice A n c)) 26)).alloc (.cells #[.int .i64 0, .int .i64 0, .slice none 0 0, .int .i64 0, .int .i64 0, .int .i64 0, .int .i64 0, .int .i64 0, .int .i64 0, .int .i64 0, .int .i64 0, .int .i64 0, .bool false] 29)).alloc (.cells (verC v (.slice none 0 0)) 29)) = W at *
  go_loopw [4] (fun v4 wr => MnRel w v (.slice A n c) #[.int .i64 0, .int .i64 0, .slice none 0 0, .int .i64 0, .int .i64 0, .int .i64 0, .int .i64 0, .int .i64 0, .int .i64 0, .int .i64 0, .int .i64 0, .int .i64 0, .bool false] v4 wr) (fun v4 _ => n - (RowKit.intOf v4).toNat)
  case atStart => exact ⟨0, _, rfl, Nat.zero_le _, B0, B1, B2, World.ownsRow_nil _ _ _ _, hB⟩
  case round =>
    clear B0 B1 B2 hB
    obtain ⟨k, xv, rfl, hk, B0, B1, B2, hO, hB⟩ := hrel
    rw [HLL.out] at hk
    have HO := Lib.hid hO
    clear hO
    have e2 : wr.cell? ⟨w.heap.size, 2, none⟩ = some (.slice A n c) := B0.cell 2
    by_cases hkn : k < n
    · have hkT : k < v.tabs.length := by have := HLL.out; omega
      obtain ⟨-, b, off, hA, hb, t0, t1⟩ := tab_at (HR.out.below hB) hkT
      subst hA
      have HF := Lib.hid (take_tc v.tabs k hkT)
      obtain ⟨id, rp, hid2⟩ : ∃ id rp, v.tabs[k] = (id, rp) := ⟨_, _, rfl⟩
      rw [hid2] at t0 t1 HF
      simp only [] at t0 t1
      clear hid2
      have hs0 : w.heap.size + 3 ≤ wr.drew.heap.size := Nat.succ_le_of_lt B2.lt
      have q0 : ∀ p : Kept (· < w.heap.size + 3) wr.drew, p.v.cell? ⟨w.heap.size, 2, none⟩ = some (.slice (some ⟨b, off, none⟩) n c) := fun p => p.h.cell (show w.heap.size < w.heap.size + 3 by omega) (B0.drew.cell 2)
      have q3 : ∀ p : Kept (· < w.heap.size + 3) wr.drew, p.v.cell? ⟨w.heap.size + 1 + 1, 2, none⟩ = some xv := fun p => p.h.cell (show w.heap.size + 1 + 1 < w.heap.size + 3 by omega) (B2.drew.cell 2)
      have q1 : ∀ p : Kept (· < w.heap.size + 3) wr.drew, p.v.cell? ⟨b, off + k * 2, none⟩ = some (.int .i64 id) := fun p => p.h.cell (show b < w.heap.size + 3 by omega) t0
      have q2 : ∀ p : Kept (· < w.heap.size + 3) wr.drew, p.v.cell? ⟨b, off + k * 2 + 1, none⟩ = some (.bool rp) := fun p => p.h.cell (show b < w.heap.size + 3 by omega) t1
      have hkl : (v.tabs.take k).length = k := by rw [List.length_take]; omega
      have HKL := Lib.hid hkl
      clear t0 t1 hkl
      go_upto_region 5 with fail
      clear e2
      refine wp_region_mixTk (M := []) (· < w.heap.size + 3) 17 [0, 1, 2, 3, 4, 5, 6, 7, 8, 9, 10, 11, 12, 13, 14, 15, 16] (by kernel_rfl) (by kernel_rfl) ?_
      iterate 15 (refine mix_calmDk rfl rfl ?_; go_big_quiet_step (fail); refine wpQuiet_nil ?_)
      refine mix_loudDk rfl (by kernel_rfl) rfl ?_
      intro K1 hK1
      have HK := Lib.hid hK1
      clear hK1 q0 q1 q2 q3
      go_wp2_with fail
      refine HK.out _ _ ((Stand.refl _ _).alloc _) ?_
      clear HK
      refine mix_loudDk rfl (by kernel_rfl) rfl ?_
      intro K1 hK1
      have HK := Lib.hid hK1
      clear hK1 
      go_wp2_with (at_builtin; go_must (refine append_elem_a wr.drew #[.int .i64 id, .bool rp] (tc (id, rp)) rfl 78 rfl _ _ 27 rfl (w.heap.size + 3) 78 (.agg #[.int .i64 0, .bool false]) 2 16 Try.underlying27 info_refT rfl (by decide) xv (v.tabs.take k).length ((v.tabs.take k).flatMap tc) rfl HO.out rfl (tc_one _) rfl (by rw [HKL.out]; unfold maxLen; omega) (by rw [HKL.out]; omega) hs0 ?_); intro x2 w2 O2 G2)
      have HG2 := Lib.hid G2
      have HO2 := Lib.hid O2
      have B2n := Lib.hid ((B2.drew.alloc (.cells #[.int .i64 id, .bool rp] 78)).grown G2 (fun e => by have := (HO.out.lt _ e.symm).1; omega))
      clear O2 G2
      refine HK.out _ _ (stand_ownT (T := v.tabs.take k) (World.ownsRow.alloc HO.out _) HG2.out) ?_
      clear HK
      refine mix_endDk ?_
      have f2 := B2n.out.frozen
      have c2 : w2.cell? ⟨w.heap.size + 1 + 1, 2, none⟩ = some xv := B2n.out.cell 2
      have B0n := (B0.drew.alloc (.cells #[.int .i64 id, .bool rp] 78)).grown HG2.out (fun e => by have := (HO.out.lt _ e.symm).1; omega)
      have B1n := (B1.drew.alloc (.cells #[.int .i64 id, .bool rp] 78)).grown HG2.out (fun e => by have := (HO.out.lt _ e.symm).1; omega)
      have hBn := Below.grown ((below_drewN hB 1).alloc (show w.heap.size ≤ wr.drew.heap.size by omega) (.cells #[.int .i64 id, .bool rp] 78)) HG2.out (show w.heap.size ≤ (wr.drew.alloc (.cells #[.int .i64 id, .bool rp] 78)).heap.size by rw [World.size_alloc]; omega) (fun q hq => by have := (HO.out.lt _ hq).1; omega)
      have HO3 := HO2.out
      rw [← HF.out, HKL.out] at HO3
      have hk1 : (v.tabs.take (k + 1)).length = k + 1 := by rw [List.length_take]; omega
      have HO4 := Lib.hid HO3
      have HK1 := Lib.hid hk1
      clear HO3 HO2 HG2 HF hk1 B0 B1 B2 hB
      obtain ⟨A9, c9, rfl, -, -, -⟩ := own_form HO4.out
      go_wp2_with fail
      have HO5 := Lib.hid (World.ownsRow.kept HO4.out (only_set w2 (w.heap.size + 1 + 1) 2 (.slice A9 (k + 1) c9)) (.inr (fun e => by have := (World.ownsRow.lt HO4.out _ e).1; omega)))
      have B2x : Blk (w2.setCell ⟨w.heap.size + 1 + 1, 2, none⟩ (.slice A9 (k + 1) c9)) (w.heap.size + 1 + 1) 29 (verC v (.slice A9 (k + 1) c9)) := B2n.out.set_ 2 _
      have B0x := B0n.far (p := ⟨w.heap.size + 1 + 1, 2, none⟩) (show w.heap.size ≠ w.heap.size + 1 + 1 by omega) (.slice A9 (k + 1) c9)
      have B1x := B1n.far (p := ⟨w.heap.size + 1 + 1, 2, none⟩) (show w.heap.size + 1 ≠ w.heap.size + 1 + 1 by omega) (.slice A9 (k + 1) c9)
      have hBx := hBn.setCell (p := ⟨w.heap.size + 1 + 1, 2, none⟩) (show w.heap.size ≤ w.heap.size + 1 + 1 by omega) (.slice A9 (k + 1) c9)
      clear B0n B1n B2n hBn f2 c2 HO4
      have HO6 : Hid (OwnT (w2.setCell ⟨w.heap.size + 1 + 1, 2, none⟩ (.slice A9 (k + 1) c9)) (w.heap.size + 3) (.slice A9 (k + 1) c9) (v.tabs.take (k + 1))) := Lib.hid (by unfold OwnT; rw [HK1.out]; exact HO5.out)
      go_roundw
      case rel => exact ⟨k + 1, _, by go_num, by rw [HLL.out]; omega, B0x, B1x, B2x, HO6.out, hBx⟩
      case measure => simp [RowKit.intOf]; omega
    · have hkn : k = n := by omega
      subst hkn
      rw [List.take_of_length_le (by rw [HLL.out]; exact Nat.le_refl _)] at HO
      obtain ⟨A9, c9, rfl, hc9, R9⟩ := HO.out.reads
      have d0 : wr.cell? ⟨w.heap.size + 1 + 1, 0, none⟩ = some (.int .i64 v.log) := B2.cell 0
      have d1 : wr.cell? ⟨w.heap.size + 1 + 1, 1, none⟩ = some (.int .i64 v.next) := B2.cell 1
      have d2 : wr.cell? ⟨w.heap.size + 1 + 1, 2, none⟩ = some (.slice A9 v.tabs.length c9) := B2.cell 2
      have d3 : wr.cell? ⟨w.heap.size + 1 + 1, 3, none⟩ = some (.int .i64 v.fl.1) := B2.cell 3
      have d4 : wr.cell? ⟨w.heap.size + 1 + 1, 4, none⟩ = some (.int .i64 v.fl.2.1) := B2.cell 4
      have d5 : wr.cell? ⟨w.heap.size + 1 + 1, 5, none⟩ = some (.int .i64 v.fl.2.2) := B2.cell 5
      have d6 : wr.cell? ⟨w.heap.size + 1 + 1, 6, none⟩ = some (.int .i64 v.fe.1) := B2.cell 6
      have d7 : wr.cell? ⟨w.heap.size + 1 + 1, 7, none⟩ = some (.int .i64 v.fe.2.1) := B2.cell 7
      have d8 : wr.cell? ⟨w.heap.size + 1 + 1, 8, none⟩ = some (.int .i64 v.fe.2.2) := B2.cell 8
      have d9 : wr.cell? ⟨w.heap.size + 1 + 1, 9, none⟩ = some (.int .i64 v.se.1) := B2.cell 9
      have d10 : wr.cell? ⟨w.heap.size + 1 + 1, 10, none⟩ = some (.int .i64 v.se.2.1) := B2.cell 10
      have d11 : wr.cell? ⟨w.heap.size + 1 + 1, 11, none⟩ = some (.int .i64 v.se.2.2) := B2.cell 11
      have d12 : wr.cell? ⟨w.heap.size + 1 + 1, 12, none⟩ = some (.bool v.quar) := B2.cell 12
      have f1 := B1.frozen
      have c1 := B1.cell
      have zz := (((((((((((((B1.set_ 0 (.int .i64 v.log)).set_ 1 (.int .i64 v.next)).set_ 2 (.slice A9 v.tabs.length c9)).set_ 3 (.int .i64 v.fl.1)).set_ 4 (.int .i64 v.fl.2.1)).set_ 5 (.int .i64 v.fl.2.2)).set_ 6 (.int .i64 v.fe.1)).set_ 7 (.int .i64 v.fe.2.1)).set_ 8 (.int .i64 v.fe.2.2)).set_ 9 (.int .i64 v.se.1)).set_ 10 (.int .i64 v.se.2.1)).set_ 11 (.int .i64 v.se.2.2)).set_ 12 (.bool v.quar)).cell
      simp at zz
      go_wp2_with fail
      (try simp only [Exit.inBlock, Exit.then])
      refine bodyPost_ret (v := .agg (verC v (.slice A9 v.tabs.length c9))) (by simp [results, Try.results8, go_sem, zz, verC]) rfl ⟨A9, c9, rfl, hc9, ?_, ?_⟩
      · exact ((World.ownsRow.kept HO.out (grown_trans' (grown_trans' (grown_trans' (grown_trans' (grown_trans' (grown_trans' (grown_trans' (grown_trans' (grown_trans' (grown_trans' (grown_trans' (grown_trans' (only_set wr (w.heap.size + 1) 0 _) (only_set _ (w.heap.size + 1) 1 _)) (only_set _ (w.heap.size + 1) 2 _)) (only_set _ (w.heap.size + 1) 3 _)) (only_set _ (w.heap.size + 1) 4 _)) (only_set _ (w.heap.size + 1) 5 _)) (only_set _ (w.heap.size + 1) 6 _)) (only_set _ (w.heap.size + 1) 7 _)) (only_set _ (w.heap.size + 1) 8 _)) (only_set _ (w.heap.size + 1) 9 _)) (only_set _ (w.heap.size + 1) 10 _)) (only_set _ (w.heap.size + 1) 11 _)) (only_set _ (w.heap.size + 1) 12 _)) (.inr (fun e => by have := (HO.out.lt _ e).1; omega))))
      · exact ((((((((((((((hB.setCell (p := ⟨w.heap.size + 1, 0, none⟩) (show w.heap.size ≤ w.heap.size + 1 by omega) _).setCell (p := ⟨w.heap.size + 1, 1, none⟩) (show w.heap.size ≤ w.heap.size + 1 by omega) _).setCell (p := ⟨w.heap.size + 1, 2, none⟩) (show w.heap.size ≤ w.heap.size + 1 by omega) _).setCell (p := ⟨w.heap.size + 1, 3, none⟩) (show w.heap.size ≤ w.heap.size + 1 by omega) _).setCell (p := ⟨w.heap.size + 1, 4, none⟩) (show w.heap.size ≤ w.heap.size + 1 by omega) _).setCell (p := ⟨w.heap.size + 1, 5, none⟩) (show w.heap.size ≤ w.heap.size + 1 by omega) _).setCell (p := ⟨w.heap.size + 1, 6, none⟩) (show w.heap.size ≤ w.heap.size + 1 by omega) _).setCell (p := ⟨w.heap.size + 1, 7, none⟩) (show w.heap.size ≤ w.heap.size + 1 by omega) _).setCell (p := ⟨w.heap.size + 1, 8, none⟩) (show w.heap.size ≤ w.heap.size + 1 by omega) _).setCell (p := ⟨w.heap.size + 1, 9, none⟩) (show w.heap.size ≤ w.heap.size + 1 by omega) _).setCell (p := ⟨w.heap.size + 1, 10, none⟩) (show w.heap.size ≤ w.heap.size + 1 by omega) _).setCell (p := ⟨w.heap.size + 1, 11, none⟩) (show w.heap.size ≤ w.heap.size + 1 by omega) _).setCell (p := ⟨w.heap.size + 1, 12, none⟩) (show w.heap.size ≤ w.heap.size + 1 by omega) _))
theorem law17_mine (v : Ver) (A : Option Addr) (n c : Nat) (w : World) (hr : Reads w w.heap.size 2 A n (v.tabs.flatMap tc)) (hn : n ≤ 100000) :
    Calls Try.prog 8 #[.agg (verC v (.slice A n c))] w (MineTo w v) := by
  refine (law17_mineO v A n c w hr hn).mono ?_
  rintro e w' ⟨A3, c3, rfl, hc, O, b⟩
  exact ⟨A3, c3, rfl, hc, Reads.of_own O, b⟩
end Go.Proofs.Ytedegdojbhegdaa
