/- Contract of the law's alive. -/
import Derived.Test.YtfkooohnaodjmaaHinI
namespace Go.Proofs.Ytfkooohnaodjmaa
open Go.RowKit Go.Sort

def mK : Mut := ⟨1, 1, ⟨#[107]⟩, ⟨#[]⟩, ⟨#[]⟩, 0, (1, 0, 0), []⟩
theorem StH.new {w : World} {gs : Nat} {base : Nat} (hb : Blk w gs 26 #[.slice none 0 0]) (h : base ≤ gs) : StH w gs base (.slice none 0 0) [] :=
  ⟨hb, World.ownsRow_nil _ _ _ _, Hangs.nil_, Hangs.nil_, fun _ h => (by cases h), (by intro h; cases h), h, fun _ h => (by cases h)⟩
theorem mK_add : addB [] 1 mK = true := rfl
theorem mK_two : addB [⟨1, 43, mK⟩] 1 mK = false := by
  unfold addB
  simp only [List.any_cons, List.any_nil, Bool.or_false, cmpM_selfH]
  decide

set_option maxRecDepth 100000 in
set_option maxHeartbeats 2000000 in
theorem law28_alive (w : World) : Calls Try.prog 12 #[] w fun e w' => e = .returned (.bool true) ∧ Below w.heap.size w w' := by
  obtain ⟨W, hW⟩ : ∃ W, (w.alloc (.cells #[.slice none 0 0] 26)).alloc (.cells #[.int .i64 1, .int .i64 1, .string ⟨#[107]⟩, .string ⟨#[]⟩, .string ⟨#[]⟩, .int .i64 0, .int .i64 1, .int .i64 0, .int .i64 0, .slice none 0 0] 33) = W := ⟨_, rfl⟩
  have bW : Below w.heap.size w W := by rw [← hW]; exact ((Below.refl _ _).alloc (Nat.le_refl _) _).alloc (by simp) _
  have BS : Blk W w.heap.size 26 #[.slice none 0 0] := by rw [← hW]; exact (Blk.new _ _ _).alloc _
  have BM : Blk W (w.heap.size + 1) 33 #[.int .i64 1, .int .i64 1, .string ⟨#[107]⟩, .string ⟨#[]⟩, .string ⟨#[]⟩, .int .i64 0, .int .i64 1, .int .i64 0, .int .i64 0, .slice none 0 0] := by rw [← hW, ← World.size_alloc w (.cells #[.slice none 0 0] 26)]; exact Blk.new _ _ _
  have st0 := StH.new BS (Nat.le_refl _)
  have hsW := BM.lt
  have C1 := Lib.hid (hint_Add w.heap.size w.heap.size (.slice none 0 0) [] 1 3 mK none 0 0 W st0 ⟨rfl, fun h => absurd h (by decide)⟩ (fun _ => rfl) (by decide) (by decide))
  have m0 : W.cell? ⟨w.heap.size + 1, 0, none⟩ = some (.int .i64 1) := BM.cell 0
  have m1 : W.cell? ⟨w.heap.size + 1, 1, none⟩ = some (.int .i64 1) := BM.cell 1
  have m2 : W.cell? ⟨w.heap.size + 1, 2, none⟩ = some (.string ⟨#[107]⟩) := BM.cell 2
  have m3 : W.cell? ⟨w.heap.size + 1, 3, none⟩ = some (.string ⟨#[]⟩) := BM.cell 3
  have m4 : W.cell? ⟨w.heap.size + 1, 4, none⟩ = some (.string ⟨#[]⟩) := BM.cell 4
  have m5 : W.cell? ⟨w.heap.size + 1, 5, none⟩ = some (.int .i64 0) := BM.cell 5
  have m6 : W.cell? ⟨w.heap.size + 1, 6, none⟩ = some (.int .i64 1) := BM.cell 6
  have m7 : W.cell? ⟨w.heap.size + 1, 7, none⟩ = some (.int .i64 0) := BM.cell 7
  have m8 : W.cell? ⟨w.heap.size + 1, 8, none⟩ = some (.int .i64 0) := BM.cell 8
  have m9 : W.cell? ⟨w.heap.size + 1, 9, none⟩ = some (.slice none 0 0) := BM.cell 9
  have BMh := Lib.hid BM
  have BSh := Lib.hid BS
  have HB := Lib.hid bW
  have HW := Lib.hid hW
  clear st0 BS BM bW hW
  unfold mutC mK at C1
  go_enter Try.func12, Try.ntmps12
  go_upto_region 3 with fail
  rw [HW.out]
  go_wp2_with fail
  clear HW
  refine C1.out.mono ?_
  clear C1 m0 m1 m2 m3 m4 m5 m6 m7 m8 m9
  rintro e w1 ⟨v1, L1, rfl, st1, e1, s1, l1⟩
  have e1' : L1.map hp = [⟨1, 43, mK⟩] := e1
  have hb1 := HB.out.trans (s1.below (B := w.heap.size) (StS.of_low (StH.new BSh.out (Nat.le_refl _))) HB.out.size)
  have BM1 := s1.blk (g := w.heap.size + 1) ⟨fun e => by injection e with e; omega, fun e => by cases e⟩ BMh.out
  have hne1 : some (w.heap.size + 1) ≠ v1.ownBlock := fun e => by
    rcases l1 with h | ⟨g, h, hg⟩
    · rw [h] at e; cases e
    · rw [h] at e; injection e with e; omega
  have m0 : w1.cell? ⟨w.heap.size + 1, 0, none⟩ = some (.int .i64 1) := BM1.cell 0
  have m1 : w1.cell? ⟨w.heap.size + 1, 1, none⟩ = some (.int .i64 1) := BM1.cell 1
  have m2 : w1.cell? ⟨w.heap.size + 1, 2, none⟩ = some (.string ⟨#[107]⟩) := BM1.cell 2
  have m3 : w1.cell? ⟨w.heap.size + 1, 3, none⟩ = some (.string ⟨#[]⟩) := BM1.cell 3
  have m4 : w1.cell? ⟨w.heap.size + 1, 4, none⟩ = some (.string ⟨#[]⟩) := BM1.cell 4
  have m5 : w1.cell? ⟨w.heap.size + 1, 5, none⟩ = some (.int .i64 0) := BM1.cell 5
  have m6 : w1.cell? ⟨w.heap.size + 1, 6, none⟩ = some (.int .i64 1) := BM1.cell 6
  have m7 : w1.cell? ⟨w.heap.size + 1, 7, none⟩ = some (.int .i64 0) := BM1.cell 7
  have m8 : w1.cell? ⟨w.heap.size + 1, 8, none⟩ = some (.int .i64 0) := BM1.cell 8
  have m9 : w1.cell? ⟨w.heap.size + 1, 9, none⟩ = some (.slice none 0 0) := BM1.cell 9
  have hL1 : L1.length = 1 := by have := congrArg List.length e1'; simpa using this
  have C2 := Lib.hid (hint_Add w.heap.size w.heap.size v1 L1 1 4 mK none 0 0 w1 st1 ⟨rfl, fun h => absurd h (by decide)⟩ (fun _ => rfl) (by decide) (by omega))
  have HE1 := Lib.hid e1'
  have HS1 := Lib.hid (And.intro st1 (And.intro hb1 (And.intro hne1 BM1)))
  have hsz1 := s1.size
  clear st1 e1 e1' s1 l1 hb1 BM1 hne1
  unfold mutC mK at C2
  go_wp2_with fail
  refine C2.out.mono ?_
  clear C2 m0 m1 m2 m3 m4 m5 m6 m7 m8 m9
  rintro e w2 ⟨v2, L2, rfl, st2, e2, s2, l2⟩
  rw [HE1.out]
  have e2' : L2.map hp = [⟨1, 43, mK⟩] := by
    rw [e2, HE1.out]
    unfold addH
    rw [show addB [⟨1, 43, mK⟩] 1 ⟨1, 1, ⟨#[107]⟩, ⟨#[]⟩, ⟨#[]⟩, 0, (1, 0, 0), []⟩ = false from mK_two]
    rfl
  rw [show addB [⟨1, 43, mK⟩] 1 ⟨1, 1, ⟨#[107]⟩, ⟨#[]⟩, ⟨#[]⟩, 0, (1, 0, 0), []⟩ = false from mK_two]
  have hb2 := HS1.out.2.1.trans (s2.below (B := w.heap.size) (StS.of_low HS1.out.1) HS1.out.2.1.size)
  have hL2 : L2.length = 1 := by have := congrArg List.length e2'; simpa using this
  have C3 := Lib.hid (hint_Expire w.heap.size w.heap.size v2 L2 42 w2 st2 (by omega))
  have HE2 := Lib.hid e2'
  have HS2 := Lib.hid (And.intro st2 hb2)
  clear st2 e2 e2' s2 l2 hb2 hL1
  go_wp2_with fail
  refine C3.out.mono ?_
  clear C3
  rintro e w3 ⟨v3, L3, rfl, st3, e3, s3, l3⟩
  have e3' : L3.map hp = [⟨1, 43, mK⟩] := by rw [e3, HE2.out]; rfl
  have hL3 : L3.length = 1 := by have := congrArg List.length e3'; simpa using this
  have hb3 := HS2.out.2.trans (s3.below (B := w.heap.size) (StS.of_low HS2.out.1) HS2.out.2.size)
  obtain ⟨A3, c3, rfl, -, -, -⟩ := own_form st3.own
  rw [hL2, hL3]
  rw [hL3] at st3
  have C4 := Lib.hid (hint_Len w.heap.size A3 1 c3 w3 st3.blk)
  have C5 := Lib.hid (hint_Expire w.heap.size w.heap.size _ L3 43 w3 st3 (by omega))
  have HE3 := Lib.hid e3'
  have HS3 := Lib.hid (And.intro st3 hb3)
  clear st3 e3 e3' s3 l3 hb3
  go_wp2_with fail
  refine C4.out.mono ?_
  clear C4
  rintro e w4 ⟨rfl, rfl⟩
  go_wp2_with fail
  refine C5.out.mono ?_
  clear C5
  rintro e w5 ⟨v5, L5, rfl, st5, e5, s5, l5⟩
  have e5' : L5.map hp = [] := by rw [e5, HE3.out]; rfl
  have hL5 : L5.length = 0 := by have := congrArg List.length e5'; simpa using this
  have hb5 := HS3.out.2.trans (s5.below (B := w.heap.size) (StS.of_low HS3.out.1) HS3.out.2.size)
  rw [hL3, hL5]
  clear st5 e5 e5' s5 l5
  go_wp2_with fail
  go_ret
  exact ⟨rfl, hb5⟩
end Go.Proofs.Ytfkooohnaodjmaa
