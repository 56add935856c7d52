/- Contract of the law's own alive. -/
import Derived.Test.YtfebncpfhdgkpaaFrameB
import Derived.Deep.Cut
import Derived.StillTailTactics
namespace Go.Proofs.Ytfebncpfhdgkpaa
open Go.RowKit Go.Sort

theorem own_lit (w : World) (l : List UInt8) (h : l.length ≤ 1000) : Own (w.alloc (.cells (l.map vb).toArray 5)) w.heap.size (.slice (some ⟨w.heap.size, 0, none⟩) l.length l.length) l := by
  have := World.ownsRow_lit (e := 5) (size := 1) w (l.map vb).toArray l.length (Nat.le_refl _) (by unfold maxLen; omega) (by simp)
  simpa [Own] using this
theorem Reads.take' {w : World} {B n : Nat} {A : Option Addr} {L : List UInt8} (h : Reads w B 1 A n (L.map vb)) (k : Nat) (hk : k ≤ n) : Reads w B 1 A k ((L.take k).map vb) := by
  have hl := h.len
  refine ⟨by simp; omega, fun h0 => ?_⟩
  obtain ⟨ad, hA, hb, hc⟩ := h.2 (by omega)
  refine ⟨ad, hA, hb, fun j u hu => hc j u ?_⟩
  rw [List.map_take] at hu
  have hj := (List.getElem?_eq_some_iff.1 hu).1
  rw [List.length_take] at hj
  rw [List.getElem?_take_of_lt (by omega)] at hu
  exact hu
theorem b12 : wtext [7, 8] ++ wtext [9] = [2, 7, 8, 1, 9] := by decide +kernel
theorem b12a : (frA [2, 7, 8, 1, 9]).2 = 5 := by decide +kernel
theorem b12b : (frA [2, 7, 8, 1]).2 = 3 := by decide +kernel

set_option maxRecDepth 100000 in
set_option maxHeartbeats 2000000 in
theorem alive12 (w : World) : Calls Try.prog 33 #[] w fun e w' => e = .returned (.bool true) ∧ Below w.heap.size w w' := by
  have O1 := own_lit w [7, 8] (by decide)
  have hB : Below w.heap.size w (w.alloc (.cells #[.int .u8 7, .int .u8 8] 5)) := (Below.refl _ _).alloc (Nat.le_refl _) _
  change Own (w.alloc (.cells #[.int .u8 7, .int .u8 8] 5)) _ _ _ at O1
  have H1 := frame_Put (w.alloc (.cells #[.int .u8 7, .int .u8 8] 5)) (w.heap.size + 1) (.slice none 0 0) [] (some ⟨w.heap.size, 0, none⟩) 2 2 [7, 8] (Own.nil_ _ _) (by simp) rfl (fun w1 hg => by
    obtain ⟨A1, c1, e, _, R⟩ := (O1.kept hg (.inr (by simp [Value.ownBlock]))).reads
    injection e with e1 e2 e3
    rw [e1]
    exact R) (by simp)
  go_enter Try.func33, Try.ntmps33
  go_wp2_with fail
  refine H1.mono ?_
  rintro e w1 ⟨v1, rfl, O2, G1, _⟩
  have hs1 := G1.size
  simp only [World.size_alloc] at hs1
  replace hB := Below.grown hB G1 hB.size (fun q hq => by simp [Value.ownBlock] at hq)
  rw [List.nil_append] at O2
  have O3 := own_lit w1 [9] (by decide)
  change Own (w1.alloc (.cells #[.int .u8 9] 5)) _ _ _ at O3
  have O2' := O2.alloc (.cells #[.int .u8 9] 5)
  have H2 := frame_Put (w1.alloc (.cells #[.int .u8 9] 5)) (w.heap.size + 1) v1 (wtext [7, 8]) (some ⟨w1.heap.size, 0, none⟩) 1 1 [9] O2' (by simp; omega) rfl (fun w2 hg => by
    obtain ⟨A1, c1, e, _, R⟩ := (O3.kept hg (.inr (fun e => by have h9 : v1.ownBlock = some w1.heap.size := e.symm; have := (O2.lt _ h9).2; omega))).reads
    injection e with e1 e2 e3
    rw [e1]
    exact R) (by decide +kernel)
  replace hB := hB.alloc hB.size (.cells #[.int .u8 9] 5)
  clear H1 O1 G1
  go_wp2_with fail
  refine H2.mono ?_
  rintro e w2 ⟨v2, rfl, O4, G2, _⟩
  have hB2 := Below.grown hB G2 hB.size (fun q hq => by have := (O2.lt q hq).1; omega)
  rw [b12] at O4
  clear H2 O3 O2 O2' hB G2
  obtain ⟨A4, c4, rfl, hc4, R4⟩ := O4.reads
  have hl : ([2, 7, 8, 1, 9] : List UInt8).length = 5 := rfl
  rw [hl] at R4 hc4 ⊢
  have HW1 := frame_Whole A4 5 c4 _ w2 R4 hc4 (by omega)
  rw [b12a] at HW1
  clear O4 hl
  go_wp2_with fail
  refine HW1.mono ?_
  rintro e w3 ⟨rfl, b3⟩
  have hB3 := hB2.trans (b3.mono hB2.size)
  have HW2 := frame_Whole A4 4 c4 _ w3 (((R4.below b3).more b3.size).take' 4 (by omega)) (by omega) (by omega)
  rw [show ([2, 7, 8, 1, 9] : List UInt8).take 4 = [2, 7, 8, 1] from rfl, b12b] at HW2
  have h4c : (4 : Int) ≤ c4 := by omega
  clear HW1 R4
  go_wp2_with fail
  refine HW2.mono ?_
  rintro e w4 ⟨rfl, b4⟩
  go_wp2_with fail
  go_ret
  exact ⟨rfl, hB3.trans (b4.mono hB3.size)⟩
end Go.Proofs.Ytfebncpfhdgkpaa
