/- The law's own 'right' of a configuration answers as conf.Right does. No condition. -/
import Derived.Test.YtfebncpfhdgkpaaConfA
namespace Go.Proofs.Ytfebncpfhdgkpaa
open Go.RowKit Go.Sort

/-- The configuration's right numbers, up to place k. -/
def cAcc (e j0 j1 j2 j3 j4 : Int) : Nat → Bool
  | 0 => decide (0 ≤ e) && decide (e ≤ 1099511627776)
  | k + 1 => cAcc e j0 j1 j2 j3 j4 k && (decide (0 ≤ cJoin j0 j1 j2 j3 j4 k) && decide (cJoin j0 j1 j2 j3 j4 k ≤ e))
theorem cAcc_five (e j0 j1 j2 j3 j4 : Int) : cAcc e j0 j1 j2 j3 j4 5 = cRight e j0 j1 j2 j3 j4 := by
  rw [Bool.eq_iff_iff]
  simp [cAcc, cRight, cJoin]
  omega

def RightRel (e j0 j1 j2 j3 j4 : Int) (W : World) (v3 v4 : Value) (wr : World) : Prop :=
  ∃ k m : Nat, k ≤ 5 ∧ v3 = .bool (cAcc e j0 j1 j2 j3 j4 k) ∧ v4 = .int .i64 k ∧ wr = W.drewN m

set_option maxRecDepth 100000 in
set_option maxHeartbeats 4000000 in
theorem law21_right (e : Int) (o0 o1 o2 o3 o4 : Bool) (j0 j1 j2 j3 j4 : Int) (w : World) : Calls Try.prog 55 #[.agg #[.int .i64 (e), .bool o0, .bool o1, .bool o2, .bool o3, .bool o4, .int .i64 j0, .int .i64 j1, .int .i64 j2, .int .i64 j3, .int .i64 j4]] w fun x w' => x = .returned (.bool (cRight e j0 j1 j2 j3 j4)) ∧ Below w.heap.size w w' := by
  rw [← cAcc_five]
  generalize hW : w.alloc (.cells #[.int .i64 e, .bool o0, .bool o1, .bool o2, .bool o3, .bool o4, .int .i64 j0, .int .i64 j1, .int .i64 j2, .int .i64 j3, .int .i64 j4] 37) = W
  have HW := Lib.hid hW
  have hb : Below w.heap.size w W := by rw [← hW]; exact (Below.refl _ _).alloc (Nat.le_refl _) _
  have HB := Lib.hid hb
  have c0 : W.cell? ⟨w.heap.size, 0, none⟩ = some (.int .i64 e) := by rw [← hW]; simp [World.cell?_alloc_new]
  have c6 : W.cell? ⟨w.heap.size, 6, none⟩ = some (.int .i64 j0) := by rw [← hW]; simp [World.cell?_alloc_new]
  have c7 : W.cell? ⟨w.heap.size, 7, none⟩ = some (.int .i64 j1) := by rw [← hW]; simp [World.cell?_alloc_new]
  have c8 : W.cell? ⟨w.heap.size, 8, none⟩ = some (.int .i64 j2) := by rw [← hW]; simp [World.cell?_alloc_new]
  have c9 : W.cell? ⟨w.heap.size, 9, none⟩ = some (.int .i64 j3) := by rw [← hW]; simp [World.cell?_alloc_new]
  have c10 : W.cell? ⟨w.heap.size, 10, none⟩ = some (.int .i64 j4) := by rw [← hW]; simp [World.cell?_alloc_new]
  clear hb hW
  have l0 : ∀ m, (W.drewN m).cell? ⟨w.heap.size, 0, none⟩ = some (.int .i64 e) := fun _ => c0
  have l6 : ∀ m, (W.drewN m).cell? ⟨w.heap.size, 6, none⟩ = some (.int .i64 j0) := fun _ => c6
  have l7 : ∀ m, (W.drewN m).cell? ⟨w.heap.size, 7, none⟩ = some (.int .i64 j1) := fun _ => c7
  have l8 : ∀ m, (W.drewN m).cell? ⟨w.heap.size, 8, none⟩ = some (.int .i64 j2) := fun _ => c8
  have l9 : ∀ m, (W.drewN m).cell? ⟨w.heap.size, 9, none⟩ = some (.int .i64 j3) := fun _ => c9
  have l10 : ∀ m, (W.drewN m).cell? ⟨w.heap.size, 10, none⟩ = some (.int .i64 j4) := fun _ => c10
  clear c0 c6 c7 c8 c9 c10
  go_enter Try.func55, Try.ntmps55
  go_wp2
  all_goals
    rw [HW.out]
    go_loopw [3, 4] (fun v3 v4 wr => RightRel e j0 j1 j2 j3 j4 W v3 v4 wr) (fun _ v4 _ => 5 - (intOf v4).toNat)
    case atStart => exact ⟨0, 0, by omega, by simp [cAcc]; omega, rfl, rfl⟩
    case round =>
      obtain ⟨k, m, hk, rfl, rfl, rfl⟩ := hrel
      rcases (by omega : k = 5 ∨ k = 0 ∨ k = 1 ∨ k = 2 ∨ k = 3 ∨ k = 4) with rfl | hk4
      · go_wp2
        go_ret
        exact ⟨rfl, below_drewN HB.out m⟩
      rcases hk4 with rfl | hk4
      · have hs : cAcc e j0 j1 j2 j3 j4 (0 + 1) = (cAcc e j0 j1 j2 j3 j4 0 && (decide (0 ≤ j0) && decide (j0 ≤ e))) := by simp [cAcc, cJoin]
        have HS := Lib.hid hs
        clear hs
        generalize hb : cAcc e j0 j1 j2 j3 j4 0 = b at HS
        have Hb := Lib.hid hb
        clear hb
        cases d1 : decide (0 ≤ j0)
        all_goals cases d2 : decide (j0 ≤ e)
        all_goals cases b
        all_goals
          go_wp2
          go_quiet (fail)
          go_wp2
          go_roundw
          case rel => exact ⟨0 + 1, _, by omega, by rw [HS.out]; simp [*], rfl, rfl⟩
          case measure => simp [intOf]
      rcases hk4 with rfl | hk4
      · have hs : cAcc e j0 j1 j2 j3 j4 (1 + 1) = (cAcc e j0 j1 j2 j3 j4 1 && (decide (0 ≤ j1) && decide (j1 ≤ e))) := by simp [cAcc, cJoin]
        have HS := Lib.hid hs
        clear hs
        generalize hb : cAcc e j0 j1 j2 j3 j4 1 = b at HS
        have Hb := Lib.hid hb
        clear hb
        cases d1 : decide (0 ≤ j1)
        all_goals cases d2 : decide (j1 ≤ e)
        all_goals cases b
        all_goals
          go_wp2
          go_quiet (fail)
          go_wp2
          go_roundw
          case rel => exact ⟨1 + 1, _, by omega, by rw [HS.out]; simp [*], rfl, rfl⟩
          case measure => simp [intOf]
      rcases hk4 with rfl | hk4
      · have hs : cAcc e j0 j1 j2 j3 j4 (2 + 1) = (cAcc e j0 j1 j2 j3 j4 2 && (decide (0 ≤ j2) && decide (j2 ≤ e))) := by simp [cAcc, cJoin]
        have HS := Lib.hid hs
        clear hs
        generalize hb : cAcc e j0 j1 j2 j3 j4 2 = b at HS
        have Hb := Lib.hid hb
        clear hb
        cases d1 : decide (0 ≤ j2)
        all_goals cases d2 : decide (j2 ≤ e)
        all_goals cases b
        all_goals
          go_wp2
          go_quiet (fail)
          go_wp2
          go_roundw
          case rel => exact ⟨2 + 1, _, by omega, by rw [HS.out]; simp [*], rfl, rfl⟩
          case measure => simp [intOf]
      rcases hk4 with rfl | hk4
      · have hs : cAcc e j0 j1 j2 j3 j4 (3 + 1) = (cAcc e j0 j1 j2 j3 j4 3 && (decide (0 ≤ j3) && decide (j3 ≤ e))) := by simp [cAcc, cJoin]
        have HS := Lib.hid hs
        clear hs
        generalize hb : cAcc e j0 j1 j2 j3 j4 3 = b at HS
        have Hb := Lib.hid hb
        clear hb
        cases d1 : decide (0 ≤ j3)
        all_goals cases d2 : decide (j3 ≤ e)
        all_goals cases b
        all_goals
          go_wp2
          go_quiet (fail)
          go_wp2
          go_roundw
          case rel => exact ⟨3 + 1, _, by omega, by rw [HS.out]; simp [*], rfl, rfl⟩
          case measure => simp [intOf]
      subst hk4
      have hs : cAcc e j0 j1 j2 j3 j4 (4 + 1) = (cAcc e j0 j1 j2 j3 j4 4 && (decide (0 ≤ j4) && decide (j4 ≤ e))) := by simp [cAcc, cJoin]
      have HS := Lib.hid hs
      clear hs
      generalize hb : cAcc e j0 j1 j2 j3 j4 4 = b at HS
      have Hb := Lib.hid hb
      clear hb
      cases d1 : decide (0 ≤ j4)
      all_goals cases d2 : decide (j4 ≤ e)
      all_goals cases b
      all_goals
        go_wp2
        go_quiet (fail)
        go_wp2
        go_roundw
        case rel => exact ⟨4 + 1, _, by omega, by rw [HS.out]; simp [*], rfl, rfl⟩
        case measure => simp [intOf]


end Go.Proofs.Ytfebncpfhdgkpaa
