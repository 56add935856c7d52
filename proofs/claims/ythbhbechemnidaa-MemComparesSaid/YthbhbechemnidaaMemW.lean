/- Contract of mem.weigh: some number of 32 bits. -/
import Derived.Test.YthbhbechemnidaaMutP
namespace Go.Proofs.Ythbhbechemnidaa
open Go.RowKit Go.Sort

set_option maxRecDepth 100000 in
set_option maxHeartbeats 2000000 in
theorem mem_weigh (m : Mut) (A : Option Addr) (n c : Nat) (w : World) (hr : Reads w w.heap.size 3 A n (m.ov.flatMap sc)) (hi : MutI m) :
    Calls Try.prog 50 #[.agg (mutC m (.slice A n c))] w fun e w' => (∃ u : Int, e = .returned (.int .u32 u)) ∧ Below w.heap.size w w' := by
  have BK := Blk.new w 33 (mutC m (.slice A n c))
  have hB : Below w.heap.size w (w.alloc (.cells (mutC m (.slice A n c)) 33)) := (Below.refl _ _).alloc (Nat.le_refl _) _
  have HR := Lib.hid hr
  have HI := Lib.hid hi
  have hml := mput_len m hi
  clear hr hi
  go_enter Try.func50, Try.ntmps50
  go_upto_region 2 with fail
  generalize w.alloc (.cells (mutC m (.slice A n c)) 33) = W at *
  have q0 : W.cell? ⟨w.heap.size, 0, none⟩ = some (.int .i64 m.tab) := BK.cell 0
  have q1 : W.cell? ⟨w.heap.size, 1, none⟩ = some (.int .i64 m.kind) := BK.cell 1
  have q2 : W.cell? ⟨w.heap.size, 2, none⟩ = some (.string m.key) := BK.cell 2
  have q3 : W.cell? ⟨w.heap.size, 3, none⟩ = some (.string m.en) := BK.cell 3
  have q4 : W.cell? ⟨w.heap.size, 4, none⟩ = some (.string m.val) := BK.cell 4
  have q5 : W.cell? ⟨w.heap.size, 5, none⟩ = some (.int .i64 m.exp) := BK.cell 5
  have q6 : W.cell? ⟨w.heap.size, 6, none⟩ = some (.int .i64 m.at_.1) := BK.cell 6
  have q7 : W.cell? ⟨w.heap.size, 7, none⟩ = some (.int .i64 m.at_.2.1) := BK.cell 7
  have q8 : W.cell? ⟨w.heap.size, 8, none⟩ = some (.int .i64 m.at_.2.2) := BK.cell 8
  have q9 : W.cell? ⟨w.heap.size, 9, none⟩ = some (.slice A n c) := BK.cell 9
  go_wp2_with fail
  refine (mut_Put W W.heap.size (.slice none 0 0) [] m A n c (Own.nil_ _ _) (Nat.le_refl _) ((HR.out.below hB).more hB.size) HI.out (by simp)).mono ?_
  rintro y w1 ⟨v1, rfl, O1, G1, -⟩
  rw [List.nil_append] at O1
  replace hB := hB.trans ((below_of_grown (v := .slice none 0 0) (Below.refl _ _) (Nat.le_refl _) G1 (fun q hq => by cases hq)).mono hB.size)
  obtain ⟨A1, c1, rfl, _, R1⟩ := O1.reads
  obtain ⟨n1, hn1⟩ : ∃ n1, (mput m).length = n1 := ⟨_, rfl⟩
  have HN := Lib.hid hn1
  rw [hn1] at R1 hml ⊢
  have HR1 := Lib.hid R1
  clear O1 G1 R1 hn1 q0 q1 q2 q3 q4 q5 q6 q7 q8 q9 BK
  go_wp2_with fail
  go_loopw [3, 5, 9] (fun v3 _ v9 wr => ∃ (k : Nat) (u : Int), v9 = .int .i64 k ∧ v3 = .int .u32 u ∧ k ≤ n1 ∧ w1 = wr) (fun _ _ v9 _ => n1 - (RowKit.intOf v9).toNat)
  case atStart => exact ⟨0, _, rfl, rfl, Nat.zero_le _, rfl⟩
  case round =>
    obtain ⟨k, u, rfl, rfl, hk, rfl⟩ := hrel
    by_cases hkn : k < n1
    · obtain ⟨b, off, rfl, _, hc⟩ := Reads.form HR1.out (by omega)
      have hkl : k < (mput m).length := by rw [HN.out]; exact hkn
      have q := hc k (vb (mput m)[k]) (by simp [hkl])
      unfold vb at q
      clear hc
      go_wp2_with fail
      go_roundw
      case rel => exact ⟨k + 1, _, by go_num, rfl, by omega, by first | rfl | trivial⟩
      case measure => simp [RowKit.intOf]; omega
    · go_wp2_with fail
      go_ret
      first
        | exact ⟨⟨_, rfl⟩, hB⟩
        | exact ⟨⟨_, rfl, trivial⟩, hB⟩
end Go.Proofs.Ythbhbechemnidaa
