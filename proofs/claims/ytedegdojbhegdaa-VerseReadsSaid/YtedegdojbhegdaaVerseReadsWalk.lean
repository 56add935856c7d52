/- The walk of the law VerseReads: it returns true, and nothing that was there ahead of the call has turned. -/
import Derived.Test.YtedegdojbhegdaaVerR
import Derived.Test.YtedegdojbhegdaaVerF
import Derived.Test.YtedegdojbhegdaaVerG
namespace Go.Proofs.Ytedegdojbhegdaa
open Go.RowKit Go.Sort

def ver0 : Ver := ⟨0, 0, [], (0, 0, 0), (0, 0, 0), (0, 0, 0), false⟩
theorem ver0_in : ver0.In := ⟨by decide, by decide, (fun t h => by cases h), by decide, by decide, by decide⟩

set_option maxRecDepth 100000 in
set_option maxHeartbeats 8000000 in
theorem verse_reads_walk (w : World) (A : Option Addr) (n c : Nat) (l : List UInt8) (_ : n ≤ c) (_ : c ≤ maxLen) (hll : l.length = n) (hr : Reads w w.heap.size 1 A n (l.map vb)) (hA : A = none → c = 0) :
    Calls Try.prog 5 #[.slice A n c] w fun x w' => x = .returned (.bool true) ∧ Below w.heap.size w w' := by
  by_cases hbig : 1000 < n
  · have hd : decide (1000 < (n : Int)) = true := by simp; omega
    clear hA hll
    go_enter Try.func5, Try.ntmps5
    go_wp2_with fail
    go_ret
    exact ⟨rfl, Below.refl _ _⟩
  have hd : decide (1000 < (n : Int)) = false := by simp; omega
  have HR := Lib.hid hr
  have HL := Lib.hid hll
  have HA := Lib.hid hA
  clear hr hll hA
  go_enter Try.func5, Try.ntmps5
  go_wp2_with fail
  refine (bytes_Clone A n c l w HR.out HA.out (by omega)).mono ?_
  rintro x t1 ⟨u1, rfl, Q1, hB⟩
  obtain ⟨A7, c7, rfl, hc7, R7⟩ := Q1.reads
  rw [HL.out] at R7 hc7 ⊢
  clear Q1
  go_wp2_with fail
  refine (verse_Get A7 n c7 l t1 R7 hc7 (by omega)).mono ?_
  rintro x w2 ⟨b2, hg⟩
  replace hB := hB.trans (b2.mono hB.size)
  clear b2 R7
  rcases hg with ⟨h0, A3, c3, rfl, hc3, R3⟩ | ⟨h0, rfl⟩
  case inr =>
    obtain ⟨y, hy⟩ : ∃ y, (vgAll l).2 = y := ⟨_, rfl⟩
    rw [hy] at h0 ⊢
    have hyn : (y != 0) = true := by simp [h0]
    clear hy h0
    have B1 := Blk.new w2 26 #[.int .i64 0, .int .i64 0, .slice none 0 0, .int .i64 0, .int .i64 0, .int .i64 0, .int .i64 0, .int .i64 0, .int .i64 0, .int .i64 0, .int .i64 0, .int .i64 0, .bool false]
    have hB1 := hB.alloc hB.size (.cells #[.int .i64 0, .int .i64 0, .slice none 0 0, .int .i64 0, .int .i64 0, .int .i64 0, .int .i64 0, .int .i64 0, .int .i64 0, .int .i64 0, .int .i64 0, .int .i64 0, .bool false] 26)
    have q0 : (w2.alloc (.cells #[.int .i64 0, .int .i64 0, .slice none 0 0, .int .i64 0, .int .i64 0, .int .i64 0, .int .i64 0, .int .i64 0, .int .i64 0, .int .i64 0, .int .i64 0, .int .i64 0, .bool false] 26)).cell? ⟨w2.heap.size, 0, none⟩ = some (.int .i64 0) := B1.cell 0
    have q1 : (w2.alloc (.cells #[.int .i64 0, .int .i64 0, .slice none 0 0, .int .i64 0, .int .i64 0, .int .i64 0, .int .i64 0, .int .i64 0, .int .i64 0, .int .i64 0, .int .i64 0, .int .i64 0, .bool false] 26)).cell? ⟨w2.heap.size, 1, none⟩ = some (.int .i64 0) := B1.cell 1
    have q2 : (w2.alloc (.cells #[.int .i64 0, .int .i64 0, .slice none 0 0, .int .i64 0, .int .i64 0, .int .i64 0, .int .i64 0, .int .i64 0, .int .i64 0, .int .i64 0, .int .i64 0, .int .i64 0, .bool false] 26)).cell? ⟨w2.heap.size, 2, none⟩ = some (.slice none 0 0) := B1.cell 2
    have q3 : (w2.alloc (.cells #[.int .i64 0, .int .i64 0, .slice none 0 0, .int .i64 0, .int .i64 0, .int .i64 0, .int .i64 0, .int .i64 0, .int .i64 0, .int .i64 0, .int .i64 0, .int .i64 0, .bool false] 26)).cell? ⟨w2.heap.size, 3, none⟩ = some (.int .i64 0) := B1.cell 3
    have q4 : (w2.alloc (.cells #[.int .i64 0, .int .i64 0, .slice none 0 0, .int .i64 0, .int .i64 0, .int .i64 0, .int .i64 0, .int .i64 0, .int .i64 0, .int .i64 0, .int .i64 0, .int .i64 0, .bool false] 26)).cell? ⟨w2.heap.size, 4, none⟩ = some (.int .i64 0) := B1.cell 4
    have q5 : (w2.alloc (.cells #[.int .i64 0, .int .i64 0, .slice none 0 0, .int .i64 0, .int .i64 0, .int .i64 0, .int .i64 0, .int .i64 0, .int .i64 0, .int .i64 0, .int .i64 0, .int .i64 0, .bool false] 26)).cell? ⟨w2.heap.size, 5, none⟩ = some (.int .i64 0) := B1.cell 5
    have q6 : (w2.alloc (.cells #[.int .i64 0, .int .i64 0, .slice none 0 0, .int .i64 0, .int .i64 0, .int .i64 0, .int .i64 0, .int .i64 0, .int .i64 0, .int .i64 0, .int .i64 0, .int .i64 0, .bool false] 26)).cell? ⟨w2.heap.size, 6, none⟩ = some (.int .i64 0) := B1.cell 6
    have q7 : (w2.alloc (.cells #[.int .i64 0, .int .i64 0, .slice none 0 0, .int .i64 0, .int .i64 0, .int .i64 0, .int .i64 0, .int .i64 0, .int .i64 0, .int .i64 0, .int .i64 0, .int .i64 0, .bool false] 26)).cell? ⟨w2.heap.size, 7, none⟩ = some (.int .i64 0) := B1.cell 7
    have q8 : (w2.alloc (.cells #[.int .i64 0, .int .i64 0, .slice none 0 0, .int .i64 0, .int .i64 0, .int .i64 0, .int .i64 0, .int .i64 0, .int .i64 0, .int .i64 0, .int .i64 0, .int .i64 0, .bool false] 26)).cell? ⟨w2.heap.size, 8, none⟩ = some (.int .i64 0) := B1.cell 8
    have q9 : (w2.alloc (.cells #[.int .i64 0, .int .i64 0, .slice none 0 0, .int .i64 0, .int .i64 0, .int .i64 0, .int .i64 0, .int .i64 0, .int .i64 0, .int .i64 0, .int .i64 0, .int .i64 0, .bool false] 26)).cell? ⟨w2.heap.size, 9, none⟩ = some (.int .i64 0) := B1.cell 9
    have q10 : (w2.alloc (.cells #[.int .i64 0, .int .i64 0, .slice none 0 0, .int .i64 0, .int .i64 0, .int .i64 0, .int .i64 0, .int .i64 0, .int .i64 0, .int .i64 0, .int .i64 0, .int .i64 0, .bool false] 26)).cell? ⟨w2.heap.size, 10, none⟩ = some (.int .i64 0) := B1.cell 10
    have q11 : (w2.alloc (.cells #[.int .i64 0, .int .i64 0, .slice none 0 0, .int .i64 0, .int .i64 0, .int .i64 0, .int .i64 0, .int .i64 0, .int .i64 0, .int .i64 0, .int .i64 0, .int .i64 0, .bool false] 26)).cell? ⟨w2.heap.size, 11, none⟩ = some (.int .i64 0) := B1.cell 11
    have q12 : (w2.alloc (.cells #[.int .i64 0, .int .i64 0, .slice none 0 0, .int .i64 0, .int .i64 0, .int .i64 0, .int .i64 0, .int .i64 0, .int .i64 0, .int .i64 0, .int .i64 0, .int .i64 0, .bool false] 26)).cell? ⟨w2.heap.size, 12, none⟩ = some (.bool false) := B1.cell 12
    go_wp2_with fail
    change Calls _ _ _ (w2.alloc (.cells #[.int .i64 0, .int .i64 0, .slice none 0 0, .int .i64 0, .int .i64 0, .int .i64 0, .int .i64 0, .int .i64 0, .int .i64 0, .int .i64 0, .int .i64 0, .int .i64 0, .bool false] 26)) _
    generalize w2.alloc (.cells #[.int .i64 0, .int .i64 0, .slice none 0 0, .int .i64 0, .int .i64 0, .int .i64 0, .int .i64 0, .int .i64 0, .int .i64 0, .int .i64 0, .int .i64 0, .int .i64 0, .bool false] 26) = W at *
    clear q0 q1 q2 q3 q4 q5 q6 q7 q8 q9 q10 q11 q12 B1 hB
    refine (law17_mine ver0 none 0 0 W Reads.none_ (by decide)).mono ?_
    rintro x w3 ⟨A3, c3, rfl, hc3, R3, b3⟩
    replace hB1 := hB1.trans (b3.mono hB1.size)
    clear b3
    go_wp2_with fail
    refine (ref17_Put ver0 A3 _ c3 ver0_in w3 R3 (by decide)).mono ?_
    rintro x w4 ⟨v4, rfl, O4, b4⟩
    replace hB1 := hB1.trans (b4.mono hB1.size)
    have O4 := Lib.hid O4
    clear b4 R3
    go_wp2_with fail
    refine (ref17_Put ver0 none 0 0 ver0_in w4 Reads.none_ (by decide)).mono ?_
    rintro x w5 ⟨v5, rfl, O5, b5⟩
    replace hB1 := hB1.trans (b5.mono hB1.size)
    replace O4 := Lib.hid (O4.out.below b5)
    have O5 := Lib.hid O5
    clear b5
    go_wp2_with fail
    have hE := own_Equal O4.out O5.out (by have := vput_len ver0 ver0_in (by decide); omega)
    rw [decide_eq_true rfl] at hE
    refine hE.mono ?_
    clear hE
    rintro x w6 ⟨rfl, b6⟩
    replace hB1 := hB1.trans (b6.mono hB1.size)
    go_wp2_with fail
    refine (alive17 w6).mono ?_
    rintro x w7 ⟨rfl, b7⟩
    go_wp2_with fail
    go_ret
    exact ⟨rfl, hB1.trans (b7.mono hB1.size)⟩
  obtain ⟨hL, hV, hN⟩ := vgAll_take h0
  obtain ⟨v, hv⟩ : ∃ v, (vgAll l).1 = v := ⟨_, rfl⟩
  rw [hv] at hL hV hN hc3 R3 ⊢
  clear hv h0
  have HVL := Lib.hid hL
  have HVR := Lib.hid hV
  have HVI := Lib.hid (nat_in hN)
  have hlen := hN.len
  clear hL hV hN
  unfold verC
  have B1 := Blk.new w2 26 (verC v (.slice A3 v.tabs.length c3))
  have hB1 := hB.alloc hB.size (.cells (verC v (.slice A3 v.tabs.length c3)) 26)
  have R3a := (R3.alloc (Nat.le_refl _) (.cells (verC v (.slice A3 v.tabs.length c3)) 26)).more (B' := (w2.alloc (.cells (verC v (.slice A3 v.tabs.length c3)) 26)).heap.size) (by simp)
  have q0 : (w2.alloc (.cells (verC v (.slice A3 v.tabs.length c3)) 26)).cell? ⟨w2.heap.size, 0, none⟩ = some (.int .i64 v.log) := B1.cell 0
  have q1 : (w2.alloc (.cells (verC v (.slice A3 v.tabs.length c3)) 26)).cell? ⟨w2.heap.size, 1, none⟩ = some (.int .i64 v.next) := B1.cell 1
  have q2 : (w2.alloc (.cells (verC v (.slice A3 v.tabs.length c3)) 26)).cell? ⟨w2.heap.size, 2, none⟩ = some (.slice A3 v.tabs.length c3) := B1.cell 2
  have q3 : (w2.alloc (.cells (verC v (.slice A3 v.tabs.length c3)) 26)).cell? ⟨w2.heap.size, 3, none⟩ = some (.int .i64 v.fl.1) := B1.cell 3
  have q4 : (w2.alloc (.cells (verC v (.slice A3 v.tabs.length c3)) 26)).cell? ⟨w2.heap.size, 4, none⟩ = some (.int .i64 v.fl.2.1) := B1.cell 4
  have q5 : (w2.alloc (.cells (verC v (.slice A3 v.tabs.length c3)) 26)).cell? ⟨w2.heap.size, 5, none⟩ = some (.int .i64 v.fl.2.2) := B1.cell 5
  have q6 : (w2.alloc (.cells (verC v (.slice A3 v.tabs.length c3)) 26)).cell? ⟨w2.heap.size, 6, none⟩ = some (.int .i64 v.fe.1) := B1.cell 6
  have q7 : (w2.alloc (.cells (verC v (.slice A3 v.tabs.length c3)) 26)).cell? ⟨w2.heap.size, 7, none⟩ = some (.int .i64 v.fe.2.1) := B1.cell 7
  have q8 : (w2.alloc (.cells (verC v (.slice A3 v.tabs.length c3)) 26)).cell? ⟨w2.heap.size, 8, none⟩ = some (.int .i64 v.fe.2.2) := B1.cell 8
  have q9 : (w2.alloc (.cells (verC v (.slice A3 v.tabs.length c3)) 26)).cell? ⟨w2.heap.size, 9, none⟩ = some (.int .i64 v.se.1) := B1.cell 9
  have q10 : (w2.alloc (.cells (verC v (.slice A3 v.tabs.length c3)) 26)).cell? ⟨w2.heap.size, 10, none⟩ = some (.int .i64 v.se.2.1) := B1.cell 10
  have q11 : (w2.alloc (.cells (verC v (.slice A3 v.tabs.length c3)) 26)).cell? ⟨w2.heap.size, 11, none⟩ = some (.int .i64 v.se.2.2) := B1.cell 11
  have q12 : (w2.alloc (.cells (verC v (.slice A3 v.tabs.length c3)) 26)).cell? ⟨w2.heap.size, 12, none⟩ = some (.bool v.quar) := B1.cell 12
  clear R3 hB
  go_wp2_with fail
  change Calls _ _ _ (w2.alloc (.cells (verC v (.slice A3 v.tabs.length c3)) 26)) _
  generalize w2.alloc (.cells (verC v (.slice A3 v.tabs.length c3)) 26) = W at *
  generalize w2.heap.size = g2 at *
  clear q0 q1 q2 q3 q4 q5 q6 q7 q8 q9 q10 q11 q12
  refine (law17_mine v A3 _ c3 W R3a (by omega)).mono ?_
  rintro x w3 ⟨A4, c4, rfl, hc4, R4, b3⟩
  replace R3a := (R3a.below b3).more b3.size
  replace B1 := B1.below b3 B1.lt
  replace hB1 := hB1.trans (b3.mono hB1.size)
  clear b3
  have HRt := Lib.hid (ref17_Right v A4 _ c4 w3 R4 (by omega))
  rw [vrtB_yes HVR.out] at HRt
  go_wp2_with fail
  refine HRt.out.mono ?_
  clear HRt R4 hc4
  rintro x w4 ⟨rfl, b4⟩
  replace R3a := (R3a.below b4).more b4.size
  replace B1 := B1.below b4 B1.lt
  replace hB1 := hB1.trans (b4.mono hB1.size)
  clear b4
  have q0 : w4.cell? ⟨g2, 0, none⟩ = some (.int .i64 v.log) := B1.cell 0
  have q1 : w4.cell? ⟨g2, 1, none⟩ = some (.int .i64 v.next) := B1.cell 1
  have q2 : w4.cell? ⟨g2, 2, none⟩ = some (.slice A3 v.tabs.length c3) := B1.cell 2
  have q3 : w4.cell? ⟨g2, 3, none⟩ = some (.int .i64 v.fl.1) := B1.cell 3
  have q4 : w4.cell? ⟨g2, 4, none⟩ = some (.int .i64 v.fl.2.1) := B1.cell 4
  have q5 : w4.cell? ⟨g2, 5, none⟩ = some (.int .i64 v.fl.2.2) := B1.cell 5
  have q6 : w4.cell? ⟨g2, 6, none⟩ = some (.int .i64 v.fe.1) := B1.cell 6
  have q7 : w4.cell? ⟨g2, 7, none⟩ = some (.int .i64 v.fe.2.1) := B1.cell 7
  have q8 : w4.cell? ⟨g2, 8, none⟩ = some (.int .i64 v.fe.2.2) := B1.cell 8
  have q9 : w4.cell? ⟨g2, 9, none⟩ = some (.int .i64 v.se.1) := B1.cell 9
  have q10 : w4.cell? ⟨g2, 10, none⟩ = some (.int .i64 v.se.2.1) := B1.cell 10
  have q11 : w4.cell? ⟨g2, 11, none⟩ = some (.int .i64 v.se.2.2) := B1.cell 11
  have q12 : w4.cell? ⟨g2, 12, none⟩ = some (.bool v.quar) := B1.cell 12
  go_wp2_with fail
  clear q0 q1 q2 q3 q4 q5 q6 q7 q8 q9 q10 q11 q12
  refine (law17_mine v A3 _ c3 w4 R3a (by omega)).mono ?_
  rintro x w5 ⟨A5, c5, rfl, hc5, R5, b5⟩
  replace hB1 := hB1.trans (b5.mono hB1.size)
  clear b5
  go_wp2_with fail
  refine (ref17_Put v A5 _ c5 HVI.out w5 R5 (by omega)).mono ?_
  rintro x w6 ⟨v6, rfl, O6, b6⟩
  replace hB1 := hB1.trans (b6.mono hB1.size)
  clear b6 R5
  obtain ⟨A6, c6, rfl, _, R6⟩ := O6.reads
  have HEq := Lib.hid (bytes_Equal A6 A _ n c6 c (vput v) l w6 R6 ((HR.out.below hB1).more hB1.size) (by have := vput_len v HVI.out (by omega); omega))
  rw [show decide (vput v = l) = true from decide_eq_true HVL.out.symm] at HEq
  clear R6 O6
  go_wp2_with fail
  refine HEq.out.mono ?_
  clear HEq
  rintro x w7 ⟨rfl, b7⟩
  replace hB1 := hB1.trans (b7.mono hB1.size)
  go_wp2_with fail
  refine (alive17 w7).mono ?_
  rintro x w8 ⟨rfl, b8⟩
  go_wp2_with fail
  go_ret
  exact ⟨rfl, hB1.trans (b8.mono hB1.size)⟩
end Go.Proofs.Ytedegdojbhegdaa
