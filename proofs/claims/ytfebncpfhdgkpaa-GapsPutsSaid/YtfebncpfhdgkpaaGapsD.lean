/- The examples of the chapter on gaps: they hold, whatever lies in memory. -/
import Derived.Test.YtfebncpfhdgkpaaGapsC
namespace Go.Proofs.Ytfebncpfhdgkpaa
open Go.RowKit Go.Sort

theorem rise_349 : Rise [3, 4, 9] := by
  intro i x hx
  match i, hx with
  | 0, hx => simp at hx; subst hx; exact ⟨by decide, by decide, fun h => absurd h (by decide)⟩
  | 1, hx => simp at hx; subst hx; exact ⟨by decide, by decide, fun _ p hp => by simp at hp; omega⟩
  | 2, hx => simp at hx; subst hx; exact ⟨by decide, by decide, fun _ p hp => by simp at hp; omega⟩
theorem gput_349 : gput [3, 4, 9] = [3, 3, 0, 4] := by simp [gput, gl, wputI, wput, hi, gap]
theorem rs_349 : rs [3, 4, 9] = [(3, 2), (9, 1)] := by decide
theorem reads_lit (w : World) (t : TypeId) (us : Array Value) (size n : Nat) (h : us.size = n * size) : Reads (w.alloc (.cells us t)) (w.alloc (.cells us t)).heap.size size (some ⟨w.heap.size, 0, none⟩) n us.toList := by
  refine ⟨by simpa using h, fun _ => ⟨_, rfl, by simp, fun j x hx => ?_⟩⟩
  rw [add_lit, Nat.zero_add, World.cell?_alloc_new]
  simpa using hx

set_option maxRecDepth 100000 in
set_option maxHeartbeats 1000000 in
theorem alive47 (w : World) : Calls Try.prog 49 #[] w fun e w' => e = .returned (.bool true) ∧ Below w.heap.size w w' := by
  go_enter Try.func49, Try.ntmps49
  go_wp2_with fail
  have R1 := reads_lit w 3 #[.int .i64 3, .int .i64 4, .int .i64 9] 1 3 rfl
  have hB : Below w.heap.size w (w.alloc (.cells #[.int .i64 3, .int .i64 4, .int .i64 9] 3)) := (Below.refl _ _).alloc (Nat.le_refl _) _
  have C1 := gaps_Put_yes (w.alloc (.cells #[.int .i64 3, .int .i64 4, .int .i64 9] 3)).heap.size (.slice none 0 0) [] (some ⟨w.heap.size, 0, none⟩) 3 3 [3, 4, 9] _ (Own.nil_ _ _) (Nat.le_refl _) (by simp) R1 (by decide) rise_349
  rw [List.nil_append, gput_349] at C1
  clear R1
  refine C1.mono ?_
  rintro e w1 ⟨v1, rfl, O1, G1, _⟩
  have hb1 := below_of_grown_nil G1
  replace hB := hB.trans (hb1.mono hB.size)
  clear C1 G1 hb1
  obtain ⟨A1, c1, rfl, _, R1⟩ := O1.reads
  clear O1
  go_wp2_with fail
  have R2 := reads_lit w1 5 #[.int .u8 3, .int .u8 3, .int .u8 0, .int .u8 4] 1 4 rfl
  replace hB := hB.alloc hB.size (.cells #[.int .u8 3, .int .u8 3, .int .u8 0, .int .u8 4] 5)
  have C2 := bytes_Equal A1 (some ⟨w1.heap.size, 0, none⟩) 4 4 c1 4 [3, 3, 0, 4] [3, 3, 0, 4] _ ((R1.alloc (Nat.le_refl _) _).more (by simp)) R2 (by decide)
  clear R1 R2
  refine C2.mono ?_
  clear C2
  rintro e w2 ⟨rfl, hb2⟩
  replace hB := hB.trans (hb2.mono hB.size)
  clear hb2
  rw [show decide (([3, 3, 0, 4] : List UInt8) = [3, 3, 0, 4]) = true from rfl]
  go_wp2_with fail
  have R1 := reads_lit w2 3 #[.int .i64 3, .int .i64 4, .int .i64 9] 1 3 rfl
  replace hB := hB.alloc hB.size (.cells #[.int .i64 3, .int .i64 4, .int .i64 9] 3)
  have C3 := gaps_Runs (some ⟨w2.heap.size, 0, none⟩) 3 3 [3, 4, 9] _ R1 (by decide) (by decide)
  rw [rs_349] at C3
  clear R1
  refine C3.mono ?_
  clear C3
  rintro e w3 ⟨v3, rfl, O3, hb3⟩
  replace hB := hB.trans (hb3.mono hB.size)
  clear hb3
  obtain ⟨A3, c3, rfl, _, _, hF⟩ := own_form O3
  have R3 := Reads.of_own O3
  clear hF O3
  go_wp2_with fail
  have R4 := reads_lit w3 120 #[.int .i64 3, .int .i64 2, .int .i64 9, .int .i64 1] 2 2 rfl
  replace hB := hB.alloc hB.size (.cells #[.int .i64 3, .int .i64 2, .int .i64 9, .int .i64 1] 120)
  have C4 := pairs_Equal_same A3 (some ⟨w3.heap.size, 0, none⟩) 2 2 c3 2 [(3, 2), (9, 1)] _ _ ((R3.alloc (Nat.le_refl _) _).more (by simp)) R4 (by decide)
  clear R3 R4
  refine C4.mono ?_
  clear C4
  rintro e w4 ⟨rfl, hb4⟩
  replace hB := hB.trans (hb4.mono hB.size)
  go_wp2_with fail
  go_ret
  exact ⟨rfl, hB⟩
end Go.Proofs.Ytfebncpfhdgkpaa
