/- The chapter's example on versions: it holds, whatever lies in memory. -/
import Derived.Test.YtedegdojbhegdaaVerQ
namespace Go.Proofs.Ytedegdojbhegdaa
open Go.RowKit Go.Sort

/-- A version that may be, read out of its bytes. -/
theorem verse_Get_put (v : Ver) (hv : VRt v) (A : Option Addr) (n c : Nat) (w : World) (hr : Reads w w.heap.size 1 A n ((vput v).map vb)) (hnc : n ≤ c) (hn : n ≤ 140737488355400) :
    Calls Try.prog 12 #[.slice A n c] w fun e w' => ∃ (A' : Option Addr) (c' : Nat), e = .returned (.tuple #[.agg (verC v (.slice A' v.tabs.length c')), .int .i64 0]) ∧ v.tabs.length ≤ c' ∧ Reads w' w'.heap.size 2 A' v.tabs.length (v.tabs.flatMap tc) ∧ Below w.heap.size w w' := by
  refine (verse_Get A n c (vput v) w hr hnc hn).mono ?_
  rintro e w' ⟨hb, h⟩
  have hg := vgAll_vput v (vrt_nat hv) hv
  rw [hg] at h
  rcases h with ⟨_, A', c', h1, h2, h3⟩ | ⟨h, _⟩
  · exact ⟨A', c', h1, h2, h3, hb⟩
  · exact absurd rfl h
theorem vput_len (v : Ver) (hv : v.In) (hl : v.tabs.length ≤ 100000) : (vput v).length ≤ 2000000 := by
  have := wputI_len v.log hv.log
  have := wputI_len v.next hv.next
  have := wputI_len (v.tabs.length : Int) (by omega)
  have := tabs_len v.tabs hv.tabs
  have := sput_len v.fl hv.fl.1 hv.fl.2.1 hv.fl.2.2
  have := sput_len v.fe hv.fe.1 hv.fe.2.1 hv.fe.2.2
  have := sput_len v.se hv.se.1 hv.se.2.1 hv.se.2.2
  have := wputI_len (b01 v.quar) (b01_le _)
  unfold vput vhead
  simp only [List.length_append]
  omega

set_option maxRecDepth 100000 in
set_option maxHeartbeats 4000000 in
theorem alive17 (w : World) : Calls Try.prog 11 #[] w fun x w' => x = .returned (.bool true) ∧ Below w.heap.size w w' := by
  have R0 : Reads ((w.alloc (.cells #[.int .i64 3, .bool true] 71)).alloc (.cells (verC vEx (.slice (some ⟨w.heap.size, 0, none⟩) 1 1)) 26)) ((w.alloc (.cells #[.int .i64 3, .bool true] 71)).alloc (.cells (verC vEx (.slice (some ⟨w.heap.size, 0, none⟩) 1 1)) 26)).heap.size 2 (some ⟨w.heap.size, 0, none⟩) 1 (vEx.tabs.flatMap tc) :=
    ((reads_new w 71 2 #[.int .i64 3, .bool true] (vEx.tabs.flatMap tc) rfl rfl).alloc (Nat.le_refl _) _).more (by simp)
  have B1 := Blk.new (w.alloc (.cells #[.int .i64 3, .bool true] 71)) 26 (verC vEx (.slice (some ⟨w.heap.size, 0, none⟩) 1 1))
  have hB : Below w.heap.size w ((w.alloc (.cells #[.int .i64 3, .bool true] 71)).alloc (.cells (verC vEx (.slice (some ⟨w.heap.size, 0, none⟩) 1 1)) 26)) := ((Below.refl _ _).alloc (Nat.le_refl _) _).alloc (by simp) _
  simp only [World.size_alloc] at B1
  have HIN := Lib.hid (nat_in (vrt_nat vEx_ok))
  have HLE := Lib.hid log_ex
  have HVL := Lib.hid (vput_len vEx HIN.out (by decide))
  have q0 : ((w.alloc (.cells #[.int .i64 3, .bool true] 71)).alloc (.cells (verC vEx (.slice (some ⟨w.heap.size, 0, none⟩) 1 1)) 26)).cell? ⟨w.heap.size + 1, 0, none⟩ = some (.int .i64 2) := B1.cell 0
  have q1 : ((w.alloc (.cells #[.int .i64 3, .bool true] 71)).alloc (.cells (verC vEx (.slice (some ⟨w.heap.size, 0, none⟩) 1 1)) 26)).cell? ⟨w.heap.size + 1, 1, none⟩ = some (.int .i64 3) := B1.cell 1
  have q2 : ((w.alloc (.cells #[.int .i64 3, .bool true] 71)).alloc (.cells (verC vEx (.slice (some ⟨w.heap.size, 0, none⟩) 1 1)) 26)).cell? ⟨w.heap.size + 1, 2, none⟩ = some (.slice (some ⟨w.heap.size, 0, none⟩) 1 1) := B1.cell 2
  have q3 : ((w.alloc (.cells #[.int .i64 3, .bool true] 71)).alloc (.cells (verC vEx (.slice (some ⟨w.heap.size, 0, none⟩) 1 1)) 26)).cell? ⟨w.heap.size + 1, 3, none⟩ = some (.int .i64 4) := B1.cell 3
  have q4 : ((w.alloc (.cells #[.int .i64 3, .bool true] 71)).alloc (.cells (verC vEx (.slice (some ⟨w.heap.size, 0, none⟩) 1 1)) 26)).cell? ⟨w.heap.size + 1, 4, none⟩ = some (.int .i64 0) := B1.cell 4
  have q5 : ((w.alloc (.cells #[.int .i64 3, .bool true] 71)).alloc (.cells (verC vEx (.slice (some ⟨w.heap.size, 0, none⟩) 1 1)) 26)).cell? ⟨w.heap.size + 1, 5, none⟩ = some (.int .i64 0) := B1.cell 5
  have q6 : ((w.alloc (.cells #[.int .i64 3, .bool true] 71)).alloc (.cells (verC vEx (.slice (some ⟨w.heap.size, 0, none⟩) 1 1)) 26)).cell? ⟨w.heap.size + 1, 6, none⟩ = some (.int .i64 0) := B1.cell 6
  have q7 : ((w.alloc (.cells #[.int .i64 3, .bool true] 71)).alloc (.cells (verC vEx (.slice (some ⟨w.heap.size, 0, none⟩) 1 1)) 26)).cell? ⟨w.heap.size + 1, 7, none⟩ = some (.int .i64 0) := B1.cell 7
  have q8 : ((w.alloc (.cells #[.int .i64 3, .bool true] 71)).alloc (.cells (verC vEx (.slice (some ⟨w.heap.size, 0, none⟩) 1 1)) 26)).cell? ⟨w.heap.size + 1, 8, none⟩ = some (.int .i64 0) := B1.cell 8
  have q9 : ((w.alloc (.cells #[.int .i64 3, .bool true] 71)).alloc (.cells (verC vEx (.slice (some ⟨w.heap.size, 0, none⟩) 1 1)) 26)).cell? ⟨w.heap.size + 1, 9, none⟩ = some (.int .i64 0) := B1.cell 9
  have q10 : ((w.alloc (.cells #[.int .i64 3, .bool true] 71)).alloc (.cells (verC vEx (.slice (some ⟨w.heap.size, 0, none⟩) 1 1)) 26)).cell? ⟨w.heap.size + 1, 10, none⟩ = some (.int .i64 0) := B1.cell 10
  have q11 : ((w.alloc (.cells #[.int .i64 3, .bool true] 71)).alloc (.cells (verC vEx (.slice (some ⟨w.heap.size, 0, none⟩) 1 1)) 26)).cell? ⟨w.heap.size + 1, 11, none⟩ = some (.int .i64 0) := B1.cell 11
  have q12 : ((w.alloc (.cells #[.int .i64 3, .bool true] 71)).alloc (.cells (verC vEx (.slice (some ⟨w.heap.size, 0, none⟩) 1 1)) 26)).cell? ⟨w.heap.size + 1, 12, none⟩ = some (.bool false) := B1.cell 12
  go_enter Try.func11, Try.ntmps11
  go_wp2_with fail
  change Calls _ _ _ ((w.alloc (.cells #[.int .i64 3, .bool true] 71)).alloc (.cells (verC vEx (.slice (some ⟨w.heap.size, 0, none⟩) 1 1)) 26)) _
  generalize ((w.alloc (.cells #[.int .i64 3, .bool true] 71)).alloc (.cells (verC vEx (.slice (some ⟨w.heap.size, 0, none⟩) 1 1)) 26)) = W at *
  clear q0 q1 q2 q3 q4 q5 q6 q7 q8 q9 q10 q11 q12
  refine (verse_Put vEx (some ⟨w.heap.size, 0, none⟩) 1 1 HIN.out W R0 (by decide)).mono ?_
  rintro x w1 ⟨x1, rfl, o1, b1⟩
  replace R0 := (R0.below b1).more b1.size
  replace B1 := B1.below b1 B1.lt
  replace hB := hB.trans (b1.mono hB.size)
  clear b1
  obtain ⟨A1, c1, rfl, hc1, R1⟩ := o1.reads
  clear o1
  go_wp2_with fail
  refine (verse_Get_put vEx vEx_ok A1 _ c1 w1 R1 hc1 (by have := HVL.out; omega)).mono ?_
  rintro x w2 ⟨A2, c2, rfl, hc2, R2, b2⟩
  unfold verC
  replace R0 := (R0.below b2).more b2.size
  replace B1 := B1.below b2 B1.lt
  replace hB := hB.trans (b2.mono hB.size)
  clear b2 R1 hc1
  have B2 := Blk.new w2 26 (verC vEx (.slice A2 1 c2))
  replace R0 := (R0.alloc (Nat.le_refl _) (.cells (verC vEx (.slice A2 1 c2)) 26)).more (B' := (w2.alloc (.cells (verC vEx (.slice A2 1 c2)) 26)).heap.size) (by simp)
  replace R2 := (R2.alloc (Nat.le_refl _) (.cells (verC vEx (.slice A2 1 c2)) 26)).more (B' := (w2.alloc (.cells (verC vEx (.slice A2 1 c2)) 26)).heap.size) (by simp)
  replace B1 := B1.alloc (.cells (verC vEx (.slice A2 1 c2)) 26)
  replace hB := hB.alloc hB.size (.cells (verC vEx (.slice A2 1 c2)) 26)
  go_upto_region 3 with fail
  change Code.wp _ _ _ _ (w2.alloc (.cells (verC vEx (.slice A2 1 c2)) 26))
  generalize w2.alloc (.cells (verC vEx (.slice A2 1 c2)) 26) = W3 at *
  generalize w2.heap.size = g2 at *
  have HL := Lib.hid (verse_Log ⟨#[114, 48]⟩ (by decide) 12 (by decide) (by decide) W3)
  rw [HLE.out] at HL
  go_wp2_with fail
  refine HL.out.mono ?_
  clear HL
  rintro x w4 ⟨rfl, b4⟩
  replace R0 := (R0.below b4).more b4.size
  replace R2 := (R2.below b4).more b4.size
  replace B1 := B1.below b4 B1.lt
  replace B2 := B2.below b4 B2.lt
  replace hB := hB.trans (b4.mono hB.size)
  clear b4
  have q0 : w4.cell? ⟨w.heap.size + 1, 0, none⟩ = some (.int .i64 2) := B1.cell 0
  have q1 : w4.cell? ⟨w.heap.size + 1, 1, none⟩ = some (.int .i64 3) := B1.cell 1
  have q2 : w4.cell? ⟨w.heap.size + 1, 2, none⟩ = some (.slice (some ⟨w.heap.size, 0, none⟩) 1 1) := B1.cell 2
  have q3 : w4.cell? ⟨w.heap.size + 1, 3, none⟩ = some (.int .i64 4) := B1.cell 3
  have q4 : w4.cell? ⟨w.heap.size + 1, 4, none⟩ = some (.int .i64 0) := B1.cell 4
  have q5 : w4.cell? ⟨w.heap.size + 1, 5, none⟩ = some (.int .i64 0) := B1.cell 5
  have q6 : w4.cell? ⟨w.heap.size + 1, 6, none⟩ = some (.int .i64 0) := B1.cell 6
  have q7 : w4.cell? ⟨w.heap.size + 1, 7, none⟩ = some (.int .i64 0) := B1.cell 7
  have q8 : w4.cell? ⟨w.heap.size + 1, 8, none⟩ = some (.int .i64 0) := B1.cell 8
  have q9 : w4.cell? ⟨w.heap.size + 1, 9, none⟩ = some (.int .i64 0) := B1.cell 9
  have q10 : w4.cell? ⟨w.heap.size + 1, 10, none⟩ = some (.int .i64 0) := B1.cell 10
  have q11 : w4.cell? ⟨w.heap.size + 1, 11, none⟩ = some (.int .i64 0) := B1.cell 11
  have q12 : w4.cell? ⟨w.heap.size + 1, 12, none⟩ = some (.bool false) := B1.cell 12
  have HRt := Lib.hid (verse_Right vEx (some ⟨w.heap.size, 0, none⟩) 1 1 w4 R0 (by decide) (Nat.le_refl _))
  rw [vrtB_yes vEx_ok] at HRt
  go_wp2_with fail
  refine HRt.out.mono ?_
  clear HRt q0 q1 q2 q3 q4 q5 q6 q7 q8 q9 q10 q11 q12
  rintro x w5 ⟨rfl, b5⟩
  replace R0 := (R0.below b5).more b5.size
  replace R2 := (R2.below b5).more b5.size
  replace B1 := B1.below b5 B1.lt
  replace B2 := B2.below b5 B2.lt
  replace hB := hB.trans (b5.mono hB.size)
  clear b5
  have q0 : w5.cell? ⟨w.heap.size + 1, 0, none⟩ = some (.int .i64 2) := B1.cell 0
  have q1 : w5.cell? ⟨w.heap.size + 1, 1, none⟩ = some (.int .i64 3) := B1.cell 1
  have q2 : w5.cell? ⟨w.heap.size + 1, 2, none⟩ = some (.slice (some ⟨w.heap.size, 0, none⟩) 1 1) := B1.cell 2
  have q3 : w5.cell? ⟨w.heap.size + 1, 3, none⟩ = some (.int .i64 4) := B1.cell 3
  have q4 : w5.cell? ⟨w.heap.size + 1, 4, none⟩ = some (.int .i64 0) := B1.cell 4
  have q5 : w5.cell? ⟨w.heap.size + 1, 5, none⟩ = some (.int .i64 0) := B1.cell 5
  have q6 : w5.cell? ⟨w.heap.size + 1, 6, none⟩ = some (.int .i64 0) := B1.cell 6
  have q7 : w5.cell? ⟨w.heap.size + 1, 7, none⟩ = some (.int .i64 0) := B1.cell 7
  have q8 : w5.cell? ⟨w.heap.size + 1, 8, none⟩ = some (.int .i64 0) := B1.cell 8
  have q9 : w5.cell? ⟨w.heap.size + 1, 9, none⟩ = some (.int .i64 0) := B1.cell 9
  have q10 : w5.cell? ⟨w.heap.size + 1, 10, none⟩ = some (.int .i64 0) := B1.cell 10
  have q11 : w5.cell? ⟨w.heap.size + 1, 11, none⟩ = some (.int .i64 0) := B1.cell 11
  have q12 : w5.cell? ⟨w.heap.size + 1, 12, none⟩ = some (.bool false) := B1.cell 12
  have s0 : w5.cell? ⟨g2, 0, none⟩ = some (.int .i64 2) := B2.cell 0
  have s1 : w5.cell? ⟨g2, 1, none⟩ = some (.int .i64 3) := B2.cell 1
  have s2 : w5.cell? ⟨g2, 2, none⟩ = some (.slice A2 1 c2) := B2.cell 2
  have s3 : w5.cell? ⟨g2, 3, none⟩ = some (.int .i64 4) := B2.cell 3
  have s4 : w5.cell? ⟨g2, 4, none⟩ = some (.int .i64 0) := B2.cell 4
  have s5 : w5.cell? ⟨g2, 5, none⟩ = some (.int .i64 0) := B2.cell 5
  have s6 : w5.cell? ⟨g2, 6, none⟩ = some (.int .i64 0) := B2.cell 6
  have s7 : w5.cell? ⟨g2, 7, none⟩ = some (.int .i64 0) := B2.cell 7
  have s8 : w5.cell? ⟨g2, 8, none⟩ = some (.int .i64 0) := B2.cell 8
  have s9 : w5.cell? ⟨g2, 9, none⟩ = some (.int .i64 0) := B2.cell 9
  have s10 : w5.cell? ⟨g2, 10, none⟩ = some (.int .i64 0) := B2.cell 10
  have s11 : w5.cell? ⟨g2, 11, none⟩ = some (.int .i64 0) := B2.cell 11
  have s12 : w5.cell? ⟨g2, 12, none⟩ = some (.bool false) := B2.cell 12
  have HS := Lib.hid (verse_Same vEx vEx (some ⟨w.heap.size, 0, none⟩) A2 1 1 1 c2 HIN.out HIN.out w5 R0 R2 (by decide) (by decide))
  rw [decide_eq_true rfl] at HS
  go_wp2_with fail
  refine HS.out.mono ?_
  clear HS q0 q1 q2 q3 q4 q5 q6 q7 q8 q9 q10 q11 q12 s0 s1 s2 s3 s4 s5 s6 s7 s8 s9 s10 s11 s12
  rintro x w6 ⟨rfl, b6⟩
  replace B2 := B2.below b6 B2.lt
  replace hB := hB.trans (b6.mono hB.size)
  have s3 : w6.cell? ⟨g2, 3, none⟩ = some (.int .i64 4) := B2.cell 3
  go_wp2_with fail
  go_ret
  exact ⟨rfl, hB⟩
end Go.Proofs.Ytedegdojbhegdaa
