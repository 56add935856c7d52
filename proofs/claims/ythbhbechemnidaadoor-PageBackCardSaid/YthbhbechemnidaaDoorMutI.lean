/- Plain: which stamps a mutation may supersede. No program is named here, and nothing is assumed. Contracts of mut.over and of the reference's overs: which stamps may be superseded. -/
import Derived.Test.YthbhbechemnidaaDoorMutE
import Derived.Test.YthbhbechemnidaaDoorStampC
import Derived.Deep.Cut
import Derived.Test.YthbhbechemnidaaDoorNumsC
namespace Go.Proofs.YthbhbechemnidaaDoor
open Go.RowKit Go.Sort

def right3 (s : Int × Int × Int) : Bool := rightB s.1 s.2.1 s.2.2
def less3 (s t : Int × Int × Int) : Bool := decide (cmpS s.1 s.2.1 s.2.2 t.1 t.2.1 t.2.2 < 0)
/-- A stamp that may be superseded, at its place. -/
def OvStep (ov : List (Int × Int × Int)) (at_ : Int × Int × Int) (k : Nat) : Prop := ∀ s, ov[k]? = some s → right3 s = true ∧ less3 s at_ = true ∧ ∀ r, 0 < k → ov[k - 1]? = some r → less3 r s = true
def OverOk (ov : List (Int × Int × Int)) (at_ : Int × Int × Int) : Prop := ov.length ≤ 24 ∧ ∀ k, k < ov.length → OvStep ov at_ k
noncomputable def overB (ov : List (Int × Int × Int)) (at_ : Int × Int × Int) : Bool := @decide (OverOk ov at_) (Classical.propDecidable _)
theorem overB_no {ov : List (Int × Int × Int)} {at_ : Int × Int × Int} (h : ¬ OverOk ov at_) : overB ov at_ = false := @decide_eq_false _ (Classical.propDecidable _) h
theorem overB_yes {ov : List (Int × Int × Int)} {at_ : Int × Int × Int} (h : OverOk ov at_) : overB ov at_ = true := @decide_eq_true _ (Classical.propDecidable _) h
theorem over_of {ov : List (Int × Int × Int)} {at_ : Int × Int × Int} (h : overB ov at_ = true) : OverOk ov at_ := @of_decide_eq_true _ (Classical.propDecidable _) h
theorem ret_bb {a b : Bool} (h : a = b) : Ending.returned (.bool a) = .returned (.bool b) := by rw [h]
end Go.Proofs.YthbhbechemnidaaDoor

namespace Go.Proofs.YthbhbechemnidaaDoor
open Go.RowKit Go.Sort

def OvRel (w : World) (ov : List (Int × Int × Int)) (at_ : Int × Int × Int) (n : Nat) (vk : Value) (wr : World) : Prop :=
  ∃ k : Nat, vk = .int .i64 k ∧ k ≤ n ∧ (∀ j, j < k → OvStep ov at_ j) ∧ Blk wr w.heap.size 32 #[.int .i64 at_.1, .int .i64 at_.2.1, .int .i64 at_.2.2] ∧ Below w.heap.size w wr

set_option maxRecDepth 100000 in
set_option maxHeartbeats 4000000 in
theorem mut_over (ov : List (Int × Int × Int)) (at_ : Int × Int × Int) (A : Option Addr) (n c : Nat) (w : World) (hr : Reads w w.heap.size 3 A n (ov.flatMap sc)) (hn : n ≤ 1000000000) :
    Calls Tryd.prog 80 #[.slice A n c, .agg #[.int .i64 at_.1, .int .i64 at_.2.1, .int .i64 at_.2.2]] w fun e w' => e = .returned (.bool (overB ov at_)) ∧ Below w.heap.size w w' := by
  have hll := stamps_n hr
  have BA := Blk.new w 32 #[.int .i64 at_.1, .int .i64 at_.2.1, .int .i64 at_.2.2]
  have hB : Below w.heap.size w (w.alloc (.cells #[.int .i64 at_.1, .int .i64 at_.2.1, .int .i64 at_.2.2] 32)) := (Below.refl _ _).alloc (Nat.le_refl _) _
  have HR := Lib.hid hr
  have HLL := Lib.hid hll
  clear hr hll
  go_enter Tryd.func80, Tryd.ntmps80
  go_wp2_with fail
  change Code.wp _ _ _ _ (w.alloc (.cells #[.int .i64 at_.1, .int .i64 at_.2.1, .int .i64 at_.2.2] 32))
  generalize w.alloc (.cells #[.int .i64 at_.1, .int .i64 at_.2.1, .int .i64 at_.2.2] 32) = W at *
  go_loopw [5, 6, 9] (fun _ _ v9 wr => OvRel w ov at_ n v9 wr) (fun _ _ v9 _ => n - (RowKit.intOf v9).toNat)
  case atStart => exact ⟨0, rfl, Nat.zero_le _, fun j h => absurd h (Nat.not_lt_zero _), BA, hB⟩
  case round =>
    clear BA hB
    obtain ⟨k, rfl, hk, hall, BA, hB⟩ := hrel
    have HALL := Lib.hid hall
    clear hall
    by_cases hkn : k < n
    · have hkT : k < ov.length := by have := HLL.out; omega
      obtain ⟨b, off, hA, hb, t0, t1, t2⟩ := stamp_at (HR.out.below hB) hkT
      subst hA
      have hget : ov[k]? = some ov[k] := List.getElem?_eq_getElem hkT
      obtain ⟨s, hs⟩ : ∃ s, ov[k] = s := ⟨_, rfl⟩
      rw [hs] at t0 t1 t2 hget
      clear hs
      have HG := Lib.hid hget
      clear hget
      obtain ⟨r1, h1⟩ : ∃ r, right3 s = r := ⟨_, rfl⟩
      obtain ⟨r2, h2⟩ : ∃ r, less3 s at_ = r := ⟨_, rfl⟩
      have H1 := Lib.hid h1
      have H2 := Lib.hid h2
      have BT := Blk.new wr 32 #[.int .i64 s.1, .int .i64 s.2.1, .int .i64 s.2.2]
      have BX := BA.alloc (.cells #[.int .i64 s.1, .int .i64 s.2.1, .int .i64 s.2.2] 32)
      have hX := hB.alloc hB.size (.cells #[.int .i64 s.1, .int .i64 s.2.1, .int .i64 s.2.2] 32)
      have cT := BT.cell
      go_upto_region 4 with fail
      clear cT t0 t1 t2
      generalize wr.alloc (.cells #[.int .i64 s.1, .int .i64 s.2.1, .int .i64 s.2.2] 32) = W1 at *
      generalize wr.heap.size = gs at *
      have k1 : ∀ d os, Calls Tryd.prog 78 #[.agg #[.int .i64 s.1, .int .i64 s.2.1, .int .i64 s.2.2]] (grow (redrawn W1 d) os) fun e w'' => e = .returned (.bool r1) ∧ ∃ p : Regrown, w'' = grow (redrawn W1 p.d) p.os := fun d os => Calls.regrown_of (h1 ▸ stamp_Right s.1 s.2.1 s.2.2 _)
      have k2 : ∀ d os, Calls Tryd.prog 111 #[.agg #[.int .i64 s.1, .int .i64 s.2.1, .int .i64 s.2.2], .agg #[.int .i64 at_.1, .int .i64 at_.2.1, .int .i64 at_.2.2]] (grow (redrawn W1 d) os) fun e w'' => e = .returned (.bool r2) ∧ ∃ p : Regrown, w'' = grow (redrawn W1 p.d) p.os := fun d os => Calls.regrown_of (h2 ▸ stamp_Less s.1 s.2.1 s.2.2 at_.1 at_.2.1 at_.2.2 _)
      have a0 := cell_regrown (show W1.cell? ⟨w.heap.size, 0, none⟩ = some (.int .i64 at_.1) from BX.cell 0)
      have a1 := cell_regrown (show W1.cell? ⟨w.heap.size, 1, none⟩ = some (.int .i64 at_.2.1) from BX.cell 1)
      have a2 := cell_regrown (show W1.cell? ⟨w.heap.size, 2, none⟩ = some (.int .i64 at_.2.2) from BX.cell 2)
      have e0 := cell_regrown (show W1.cell? ⟨gs, 0, none⟩ = some (.int .i64 s.1) from BT.cell 0)
      have e1 := cell_regrown (show W1.cell? ⟨gs, 1, none⟩ = some (.int .i64 s.2.1) from BT.cell 1)
      have e2 := cell_regrown (show W1.cell? ⟨gs, 2, none⟩ = some (.int .i64 s.2.2) from BT.cell 2)
      clear h1 h2
      cases r1
      case false =>
        have HF : Hid (overB ov at_ = false) := Lib.hid (overB_no (fun h => by have h9 := h.2 k (by have := HLL.out; omega) s HG.out; rw [H1.out] at h9; exact absurd h9.1 (by decide)))
        refine wp_region_quiet_below (by kernel_rfl) (by kernel_rfl) ?_
        repeat (go_big_quiet_step (first | with_reducible exact k1 _ _))
        refine wpQuiet_nil ?_
        intro _ hw'
        obtain ⟨⟨dq, osq⟩, hw''⟩ := hw'
        subst hw''
        replace hX := below_regrown_of hX hX.size dq osq
        replace BX := BX.below (below_regrown W1 dq osq) BX.lt
        generalize grow (redrawn W1 dq) osq = W2 at *
        go_wp2_with fail
        go_ret
        exact ⟨ret_bb HF.out.symm, hX⟩
      cases r2
      case false =>
        have HF : Hid (overB ov at_ = false) := Lib.hid (overB_no (fun h => by have h9 := h.2 k (by have := HLL.out; omega) s HG.out; rw [H2.out] at h9; exact absurd h9.2.1 (by decide)))
        refine wp_region_quiet_below (by kernel_rfl) (by kernel_rfl) ?_
        repeat (go_big_quiet_step (first | with_reducible exact k1 _ _ | with_reducible exact k2 _ _))
        refine wpQuiet_nil ?_
        intro _ hw'
        obtain ⟨⟨dq, osq⟩, hw''⟩ := hw'
        subst hw''
        replace hX := below_regrown_of hX hX.size dq osq
        replace BX := BX.below (below_regrown W1 dq osq) BX.lt
        generalize grow (redrawn W1 dq) osq = W2 at *
        go_wp2_with fail
        go_ret
        exact ⟨ret_bb HF.out.symm, hX⟩
      by_cases hk0 : k = 0
      case pos =>
        have hkd : decide (0 < k) = false := by simp [hk0]
        have HN : Hid (∀ j, j < k + 1 → OvStep ov at_ j) := Lib.hid (fun j hj u hu => by
          have e : j = k := by omega
          subst e
          rw [HG.out] at hu
          injection hu with hu
          subst hu
          exact ⟨H1.out, H2.out, fun r h0 _ => absurd hk0 (by omega)⟩)
        clear hk0
        refine wp_region_quiet_below (by kernel_rfl) (by kernel_rfl) ?_
        repeat (go_big_quiet_step (first | with_reducible exact k1 _ _ | with_reducible exact k2 _ _))
        refine wpQuiet_nil ?_
        intro _ hw'
        obtain ⟨⟨dq, osq⟩, hw''⟩ := hw'
        subst hw''
        replace hX := below_regrown_of hX hX.size dq osq
        replace BX := BX.below (below_regrown W1 dq osq) BX.lt
        generalize grow (redrawn W1 dq) osq = W2 at *
        go_wp2_with fail
        go_roundw
        case rel => exact ⟨k + 1, by go_num, by omega, HN.out, BX, hX⟩
        case measure => simp [RowKit.intOf]; omega
      have hkd : decide (0 < k) = true := by simp; omega
      obtain ⟨j, rfl⟩ : ∃ j, k = j + 1 := ⟨k - 1, by omega⟩
      have hjT : j < ov.length := by omega
      obtain ⟨b', off', hA', hb', t0, t1, t2⟩ := stamp_at (HR.out.below hX) hjT
      injection hA' with hA'
      injection hA' with e1' e2'
      subst e1' e2'
      have hgetp : ov[j]? = some ov[j] := List.getElem?_eq_getElem hjT
      obtain ⟨p, hp⟩ : ∃ p, ov[j] = p := ⟨_, rfl⟩
      rw [hp] at t0 t1 t2 hgetp
      clear hp
      obtain ⟨r3, h3⟩ : ∃ r, less3 p s = r := ⟨_, rfl⟩
      have H3 := Lib.hid h3
      have HP := Lib.hid hgetp
      clear hgetp
      have k3 : ∀ d os, Calls Tryd.prog 111 #[.agg #[.int .i64 p.1, .int .i64 p.2.1, .int .i64 p.2.2], .agg #[.int .i64 s.1, .int .i64 s.2.1, .int .i64 s.2.2]] (grow (redrawn W1 d) os) fun e w'' => e = .returned (.bool r3) ∧ ∃ p : Regrown, w'' = grow (redrawn W1 p.d) p.os := fun d os => Calls.regrown_of (h3 ▸ stamp_Less p.1 p.2.1 p.2.2 s.1 s.2.1 s.2.2 _)
      have p0 := cell_regrown t0
      have p1 := cell_regrown t1
      have p2 := cell_regrown t2
      clear h3 hk0 t0 t1 t2
      cases r3
      case false =>
        have HF : Hid (overB ov at_ = false) := Lib.hid (overB_no (fun h => by have h9 := h.2 (j + 1) (by have := HLL.out; omega) s HG.out; have h10 := h9.2.2 p (Nat.succ_pos _) HP.out; rw [H3.out] at h10; exact absurd h10 (by decide)))
        refine wp_region_quiet_below (by kernel_rfl) (by kernel_rfl) ?_
        repeat (go_big_quiet_step (first | with_reducible exact k1 _ _ | with_reducible exact k2 _ _ | with_reducible exact k3 _ _))
        refine wpQuiet_nil ?_
        intro _ hw'
        obtain ⟨⟨dq, osq⟩, hw''⟩ := hw'
        subst hw''
        replace hX := below_regrown_of hX hX.size dq osq
        replace BX := BX.below (below_regrown W1 dq osq) BX.lt
        generalize grow (redrawn W1 dq) osq = W2 at *
        go_wp2_with fail
        go_ret
        exact ⟨ret_bb HF.out.symm, hX⟩
      have HN : Hid (∀ i, i < j + 1 + 1 → OvStep ov at_ i) := Lib.hid (fun i hi u hu => by
        rcases Nat.lt_or_ge i (j + 1) with h | h
        · exact HALL.out i h u hu
        · have e : i = j + 1 := by omega
          subst e
          rw [HG.out] at hu
          injection hu with hu
          subst hu
          refine ⟨H1.out, H2.out, fun r _ hr => ?_⟩
          have hr' : ov[j]? = some r := hr
          rw [HP.out] at hr'
          injection hr' with hr'
          subst hr'
          exact H3.out)
      refine wp_region_quiet_below (by kernel_rfl) (by kernel_rfl) ?_
      repeat (go_big_quiet_step (first | with_reducible exact k1 _ _ | with_reducible exact k2 _ _ | with_reducible exact k3 _ _))
      refine wpQuiet_nil ?_
      intro _ hw'
      obtain ⟨⟨dq, osq⟩, hw''⟩ := hw'
      subst hw''
      replace hX := below_regrown_of hX hX.size dq osq
      replace BX := BX.below (below_regrown W1 dq osq) BX.lt
      generalize grow (redrawn W1 dq) osq = W2 at *
      go_wp2_with fail
      go_roundw
      case rel => exact ⟨j + 1 + 1, by go_num, by omega, HN.out, BX, hX⟩
      case measure => simp [RowKit.intOf]; omega
    · have hkn : k = n := by omega
      subst hkn
      have HF : Hid (overB ov at_ = decide (k ≤ 24)) := Lib.hid (by
        have hl := HLL.out
        by_cases h24 : k ≤ 24
        · rw [decide_eq_true h24]; exact overB_yes ⟨by omega, fun j hj => HALL.out j (by omega)⟩
        · rw [decide_eq_false h24]; exact overB_no (fun h => h24 (by have := h.1; omega)))
      go_wp2_with fail
      go_ret
      refine ⟨ret_bb ?_, hB⟩
      rw [HF.out, Bool.eq_iff_iff]
      simp
      omega

def OsRel (w : World) (ov : List (Int × Int × Int)) (at_ : Int × Int × Int) (n : Nat) (vk : Value) (wr : World) : Prop := OvRel w ov at_ n vk wr

set_option maxRecDepth 100000 in
set_option maxHeartbeats 4000000 in
theorem ref07_overs (ov : List (Int × Int × Int)) (at_ : Int × Int × Int) (A : Option Addr) (n c : Nat) (w : World) (hr : Reads w w.heap.size 3 A n (ov.flatMap sc)) (hn : n ≤ 1000000000) :
    Calls Tryd.prog 57 #[.slice A n c, .agg #[.int .i64 at_.1, .int .i64 at_.2.1, .int .i64 at_.2.2]] w fun e w' => e = .returned (.bool (overB ov at_)) ∧ Below w.heap.size w w' := by
  have hll := stamps_n hr
  have BA := Blk.new w 32 #[.int .i64 at_.1, .int .i64 at_.2.1, .int .i64 at_.2.2]
  have hB : Below w.heap.size w (w.alloc (.cells #[.int .i64 at_.1, .int .i64 at_.2.1, .int .i64 at_.2.2] 32)) := (Below.refl _ _).alloc (Nat.le_refl _) _
  have HR := Lib.hid hr
  have HLL := Lib.hid hll
  clear hr hll
  by_cases h24 : 24 < n
  · have hd : decide (24 < (n : Int)) = true := by simp; omega
    have HF : Hid (overB ov at_ = false) := Lib.hid (overB_no (fun h => by have := h.1; have := HLL.out; omega))
    clear h24
    go_enter Tryd.func57, Tryd.ntmps57
    go_wp2_with fail
    go_ret
    exact ⟨ret_bb HF.out.symm, hB⟩
  have hd : decide (24 < (n : Int)) = false := by simp; omega
  have H24 := Lib.hid h24
  go_enter Tryd.func57, Tryd.ntmps57
  go_wp2_with fail
  clear hd h24
  change Code.wp _ _ _ _ (w.alloc (.cells #[.int .i64 at_.1, .int .i64 at_.2.1, .int .i64 at_.2.2] 32))
  generalize w.alloc (.cells #[.int .i64 at_.1, .int .i64 at_.2.1, .int .i64 at_.2.2] 32) = W at *
  go_loopw [5] (fun v5 wr => OvRel w ov at_ n v5 wr) (fun v5 _ => n - (RowKit.intOf v5).toNat)
  case atStart => exact ⟨0, rfl, Nat.zero_le _, fun j h => absurd h (Nat.not_lt_zero _), BA, hB⟩
  case round =>
    clear BA hB
    obtain ⟨k, rfl, hk, hall, BX, hX⟩ := hrel
    have HALL := Lib.hid hall
    clear hall
    by_cases hkn : k < n
    · have hkT : k < ov.length := by have := HLL.out; omega
      obtain ⟨b, off, hA, hb, t0, t1, t2⟩ := stamp_at (HR.out.below hX) hkT
      subst hA
      have hget : ov[k]? = some ov[k] := List.getElem?_eq_getElem hkT
      obtain ⟨s, hs⟩ : ∃ s, ov[k] = s := ⟨_, rfl⟩
      rw [hs] at t0 t1 t2 hget
      clear hs
      have HG := Lib.hid hget
      clear hget
      obtain ⟨r1, h1⟩ : ∃ r, right3 s = r := ⟨_, rfl⟩
      obtain ⟨r2, h2⟩ : ∃ r, less3 s at_ = r := ⟨_, rfl⟩
      have H1 := Lib.hid h1
      have H2 := Lib.hid h2
      have k1 : ∀ d os, Calls Tryd.prog 56 #[.agg #[.int .i64 s.1, .int .i64 s.2.1, .int .i64 s.2.2]] (grow (redrawn wr d) os) fun e w'' => e = .returned (.bool r1) ∧ ∃ p : Regrown, w'' = grow (redrawn wr p.d) p.os := fun d os => Calls.regrown_of (h1 ▸ ref04_Right s.1 s.2.1 s.2.2 _)
      have k2 : ∀ d os, Calls Tryd.prog 100 #[.agg #[.int .i64 s.1, .int .i64 s.2.1, .int .i64 s.2.2], .agg #[.int .i64 at_.1, .int .i64 at_.2.1, .int .i64 at_.2.2]] (grow (redrawn wr d) os) fun e w'' => e = .returned (.bool r2) ∧ ∃ p : Regrown, w'' = grow (redrawn wr p.d) p.os := fun d os => Calls.regrown_of (h2 ▸ ref04_Less s.1 s.2.1 s.2.2 at_.1 at_.2.1 at_.2.2 _)
      have a0 := cell_regrown (show wr.cell? ⟨w.heap.size, 0, none⟩ = some (.int .i64 at_.1) from BX.cell 0)
      have a1 := cell_regrown (show wr.cell? ⟨w.heap.size, 1, none⟩ = some (.int .i64 at_.2.1) from BX.cell 1)
      have a2 := cell_regrown (show wr.cell? ⟨w.heap.size, 2, none⟩ = some (.int .i64 at_.2.2) from BX.cell 2)
      have e0 := cell_regrown t0
      have e1 := cell_regrown t1
      have e2 := cell_regrown t2
      clear h1 h2
      go_upto_region 6 with fail
      clear t0 t1 t2
      cases r1
      case false =>
        have HF : Hid (overB ov at_ = false) := Lib.hid (overB_no (fun h => by have h9 := h.2 k (by have := HLL.out; omega) s HG.out; rw [H1.out] at h9; exact absurd h9.1 (by decide)))
        refine wp_region_quiet_below (by kernel_rfl) (by kernel_rfl) ?_
        repeat (go_big_quiet_step (first | with_reducible exact k1 _ _))
        refine wpQuiet_nil ?_
        intro _ hw'
        obtain ⟨⟨dq, osq⟩, hw''⟩ := hw'
        subst hw''
        replace hX := below_regrown_of hX hX.size dq osq
        replace BX := BX.below (below_regrown wr dq osq) BX.lt
        generalize grow (redrawn wr dq) osq = W2 at *
        go_wp2_with fail
        go_ret
        exact ⟨ret_bb HF.out.symm, hX⟩
      cases r2
      case false =>
        have HF : Hid (overB ov at_ = false) := Lib.hid (overB_no (fun h => by have h9 := h.2 k (by have := HLL.out; omega) s HG.out; rw [H2.out] at h9; exact absurd h9.2.1 (by decide)))
        refine wp_region_quiet_below (by kernel_rfl) (by kernel_rfl) ?_
        repeat (go_big_quiet_step (first | with_reducible exact k1 _ _ | with_reducible exact k2 _ _))
        refine wpQuiet_nil ?_
        intro _ hw'
        obtain ⟨⟨dq, osq⟩, hw''⟩ := hw'
        subst hw''
        replace hX := below_regrown_of hX hX.size dq osq
        replace BX := BX.below (below_regrown wr dq osq) BX.lt
        generalize grow (redrawn wr dq) osq = W2 at *
        go_wp2_with fail
        go_ret
        exact ⟨ret_bb HF.out.symm, hX⟩
      refine wp_region_quiet_below (by kernel_rfl) (by kernel_rfl) ?_
      repeat (go_big_quiet_step (first | with_reducible exact k1 _ _ | with_reducible exact k2 _ _))
      refine wpQuiet_nil ?_
      intro _ hw'
      obtain ⟨⟨dq, osq⟩, hw''⟩ := hw'
      subst hw''
      replace hX := below_regrown_of hX hX.size dq osq
      replace BX := BX.below (below_regrown wr dq osq) BX.lt
      generalize grow (redrawn wr dq) osq = W2 at *
      clear k1 k2 a0 a1 a2 e0 e1 e2
      go_upto_region 8 with fail
      by_cases hk0 : k = 0
      case pos =>
        have hkd : decide (0 < k) = false := by simp [hk0]
        have HN : Hid (∀ j, j < k + 1 → OvStep ov at_ j) := Lib.hid (fun j hj u hu => by
          have e : j = k := by omega
          subst e
          rw [HG.out] at hu
          injection hu with hu
          subst hu
          exact ⟨H1.out, H2.out, fun r h0 _ => absurd hk0 (by omega)⟩)
        clear hk0
        refine wp_region_quiet_below (by kernel_rfl) (by kernel_rfl) ?_
        repeat (go_big_quiet_step (first | fail))
        refine wpQuiet_nil ?_
        intro _ hw'
        obtain ⟨⟨dq, osq⟩, hw''⟩ := hw'
        subst hw''
        replace hX := below_regrown_of hX hX.size dq osq
        replace BX := BX.below (below_regrown W2 dq osq) BX.lt
        generalize grow (redrawn W2 dq) osq = W3 at *
        go_wp2_with fail
        go_roundw
        case rel => exact ⟨k + 1, by go_num, by omega, HN.out, BX, hX⟩
        case measure => simp [RowKit.intOf]; omega
      have hkd : decide (0 < k) = true := by simp; omega
      obtain ⟨j, rfl⟩ : ∃ j, k = j + 1 := ⟨k - 1, by omega⟩
      have hjT : j < ov.length := by omega
      obtain ⟨b', off', hA', hb', t0, t1, t2⟩ := stamp_at (HR.out.below hX) hjT
      injection hA' with hA'
      injection hA' with e1' e2'
      subst e1' e2'
      obtain ⟨b', off', hA', hb', t3, t4, t5⟩ := stamp_at (HR.out.below hX) hkT
      injection hA' with hA'
      injection hA' with e1' e2'
      subst e1' e2'
      have hgs : ov[j + 1] = s := by
        have h9 := HG.out
        rw [List.getElem?_eq_getElem hkT] at h9
        injection h9
      rw [hgs] at t3 t4 t5
      have hgetp : ov[j]? = some ov[j] := List.getElem?_eq_getElem hjT
      obtain ⟨p, hp⟩ : ∃ p, ov[j] = p := ⟨_, rfl⟩
      rw [hp] at t0 t1 t2 hgetp
      clear hp hgs
      obtain ⟨r3, h3⟩ : ∃ r, less3 p s = r := ⟨_, rfl⟩
      have H3 := Lib.hid h3
      have HP := Lib.hid hgetp
      clear hgetp
      have k3 : ∀ d os, Calls Tryd.prog 100 #[.agg #[.int .i64 p.1, .int .i64 p.2.1, .int .i64 p.2.2], .agg #[.int .i64 s.1, .int .i64 s.2.1, .int .i64 s.2.2]] (grow (redrawn W2 d) os) fun e w'' => e = .returned (.bool r3) ∧ ∃ p : Regrown, w'' = grow (redrawn W2 p.d) p.os := fun d os => Calls.regrown_of (h3 ▸ ref04_Less p.1 p.2.1 p.2.2 s.1 s.2.1 s.2.2 _)
      have p0 := cell_regrown t0
      have p1 := cell_regrown t1
      have p2 := cell_regrown t2
      have p3 := cell_regrown t3
      have p4 := cell_regrown t4
      have p5 := cell_regrown t5
      clear h3 hk0 t0 t1 t2 t3 t4 t5
      cases r3
      case false =>
        have HF : Hid (overB ov at_ = false) := Lib.hid (overB_no (fun h => by have h9 := h.2 (j + 1) (by have := HLL.out; omega) s HG.out; have h10 := h9.2.2 p (Nat.succ_pos _) HP.out; rw [H3.out] at h10; exact absurd h10 (by decide)))
        refine wp_region_quiet_below (by kernel_rfl) (by kernel_rfl) ?_
        repeat (go_big_quiet_step (first | with_reducible exact k3 _ _))
        refine wpQuiet_nil ?_
        intro _ hw'
        obtain ⟨⟨dq, osq⟩, hw''⟩ := hw'
        subst hw''
        replace hX := below_regrown_of hX hX.size dq osq
        replace BX := BX.below (below_regrown W2 dq osq) BX.lt
        generalize grow (redrawn W2 dq) osq = W3 at *
        go_wp2_with fail
        go_ret
        exact ⟨ret_bb HF.out.symm, hX⟩
      have HN : Hid (∀ i, i < j + 1 + 1 → OvStep ov at_ i) := Lib.hid (fun i hi u hu => by
        rcases Nat.lt_or_ge i (j + 1) with h | h
        · exact HALL.out i h u hu
        · have e : i = j + 1 := by omega
          subst e
          rw [HG.out] at hu
          injection hu with hu
          subst hu
          refine ⟨H1.out, H2.out, fun r _ hr => ?_⟩
          have hr' : ov[j]? = some r := hr
          rw [HP.out] at hr'
          injection hr' with hr'
          subst hr'
          exact H3.out)
      refine wp_region_quiet_below (by kernel_rfl) (by kernel_rfl) ?_
      repeat (go_big_quiet_step (first | with_reducible exact k3 _ _))
      refine wpQuiet_nil ?_
      intro _ hw'
      obtain ⟨⟨dq, osq⟩, hw''⟩ := hw'
      subst hw''
      replace hX := below_regrown_of hX hX.size dq osq
      replace BX := BX.below (below_regrown W2 dq osq) BX.lt
      generalize grow (redrawn W2 dq) osq = W3 at *
      go_wp2_with fail
      go_roundw
      case rel => exact ⟨j + 1 + 1, by go_num, by omega, HN.out, BX, hX⟩
      case measure => simp [RowKit.intOf]; omega
    · have hkn : k = n := by omega
      subst hkn
      have HF : Hid (overB ov at_ = true) := Lib.hid (overB_yes ⟨by have := HLL.out; have := H24.out; omega, fun j hj => HALL.out j (by have := HLL.out; omega)⟩)
      go_wp2_with fail
      go_ret
      exact ⟨ret_bb HF.out.symm, hX⟩
end Go.Proofs.YthbhbechemnidaaDoor
