/- The walk of the law WireBack: it returns true, and nothing that was there ahead of the call has turned. Conditions: what every slice and every text meets. -/
import Derived.Test.YtnaaknkknhediaaWirePutsWalk
import Derived.Test.YtnaaknkknhediaaRdrT
namespace Go.Proofs.Ytnaaknkknhediaa
open Go.RowKit Go.Sort

/-- All that was put, read: plain. -/
theorem wire_back_plain (m : Nat) (S B : List UInt8) (hm : m < 4611686018427387904) (hS : S.length ≤ 1000) :
    rNum (([] ++ wput m ++ wtext S) ++ B) 0 = (m, (wput m).length, 0) ∧
    rText ((([] ++ wput m ++ wtext S) ++ B).drop (wput m).length) (S.length : Int) 0 = (S, (wput S.length).length + S.length, 0) := by
  unfold wtext
  rw [List.nil_append, List.append_assoc, List.append_assoc]
  refine ⟨rNum_wput _ _ hm, ?_⟩
  rw [List.drop_left]
  exact rText_put S B _ (by omega) (by omega)

theorem below_of_puts {w w1 w2 : World} {v : Value} (h1 : Below w.heap.size w w1) (hg : w1.grownBy w2 v.ownBlock) (l : List UInt8) (o : Own w1 w.heap.size v l) : Below w.heap.size w w2 :=
  Below.grown h1 hg h1.size fun k hk => (o.lt k hk).1

set_option maxRecDepth 100000 in
set_option maxHeartbeats 1000000 in
theorem wire_back_walk (w : World) (m : Int) (wm : (Lit.int .i64 m).wf = true) (s : ByteArray) (_ : s.size ≤ maxLen)
    (A : Option Addr) (n c : Nat) (l : List UInt8) (_ : n ≤ c) (_ : c ≤ maxLen) (_ : l.length = n) (hr : Reads w w.heap.size 1 A n (l.map vb)) (_ : A = none → c = 0) :
    Calls Try.prog 12 #[.int .i64 m, .string s, .slice A n c] w fun e w' => e = .returned (.bool true) ∧ Below w.heap.size w w' := by
  have hm := bounds_i64 wm
  have hln := hr.len
  have hcm : c ≤ 9223372036854775807 := by simpa [maxLen] using ‹c ≤ maxLen›
  have hncc := ‹n ≤ c›
  by_cases h0 : decide (m < 0) = true ∨ (decide (m < 0) = false ∧ decide (4611686018427387904 ≤ m) = true) ∨ (decide (m < 0) = false ∧ decide (4611686018427387904 ≤ m) = false ∧ decide (1000 < (s.size : Int)) = true) ∨ (decide (m < 0) = false ∧ decide (4611686018427387904 ≤ m) = false ∧ decide (1000 < (s.size : Int)) = false ∧ decide (1000 < (n : Int)) = true)
  · clear hr hln wm
    rcases h0 with h1 | ⟨h1, h2⟩ | ⟨h1, h2, h3⟩ | ⟨h1, h2, h3, h4⟩
    all_goals
      go_enter Try.func12, Try.ntmps12
      go_wp2_with fail
      go_ret
      exact ⟨rfl, Below.refl _ _⟩
  have hcase : 0 ≤ m ∧ m < 4611686018427387904 ∧ s.size ≤ 1000 ∧ n ≤ 1000 := by
    simp at h0
    omega
  clear h0
  obtain ⟨hm0, hm1, hs, hn⟩ := hcase
  obtain ⟨M, rfl⟩ : ∃ M : Nat, m = (M : Int) := ⟨m.toNat, by omega⟩
  have hsl : s.data.toList.length = s.size := Array.length_toList
  have hwt : (wtext s.data.toList).length ≤ 1009 := by
    have := wput_length s.data.toList.length (by omega)
    simp [wtext] at *; omega
  have hwl := wput_length M (by omega)
  obtain ⟨p1, p2⟩ := wire_back_plain M s.data.toList l (by omega) (by omega)
  have d1 : decide ((M : Int) < 0) = false := by simp
  have d2 : decide (4611686018427387904 ≤ (M : Int)) = false := by simp; omega
  have d3 : decide (1000 < (s.size : Int)) = false := by simp; omega
  have d4 : decide (1000 < (n : Int)) = false := by simp; omega
  have HR := Lib.hid hr
  have HL := Lib.hid hln
  have HS := Lib.hid hsl
  have HWT := Lib.hid hwt
  have HWL := Lib.hid hwl
  have P1 := Lib.hid p1
  have P2 := Lib.hid p2
  clear hr hln wm hsl hwt hwl p1 p2
  go_enter Try.func12, Try.ntmps12
  go_wp2_with fail
  refine (wire_Put w w.heap.size _ [] M (Own.nil_ _ _) (Nat.le_refl _) (by omega) (by simp)).mono ?_
  rintro e w1 ⟨v1, rfl, o1, g1, l1⟩
  have hB1 := below_of_puts_nil g1
  clear g1 l1
  go_wp2_with fail
  refine (wire_Text w1 w.heap.size v1 _ s o1 hB1.size (by have := HWL.out; simp [wputI] <;> omega)).mono ?_
  rintro e w2 ⟨v2, rfl, o2, g2, l2⟩
  have hB2 := below_of_puts hB1 g2 _ o1
  clear g2 l2 o1 hB1
  obtain ⟨L1, hL1⟩ : ∃ L1, L1 = [] ++ wputI M ++ wtext s.data.toList := ⟨_, rfl⟩
  rw [← hL1] at o2
  have HL1 := Lib.hid hL1
  have hz1 : L1.length = (wput M).length + ((wput s.data.toList.length).length + s.data.toList.length) := by rw [hL1]; simp [wputI, wtext]
  have hz : L1.length ≤ 1100 := by have := HWT.out; have := HWL.out; rw [hL1]; simp [wputI]; omega
  have HZ1 := Lib.hid hz1
  have HZ := Lib.hid hz
  clear hL1 hz hz1
  obtain ⟨A2, c2, rfl, hnc2, r2⟩ := o2.reads
  go_wp2_with (at_builtin; go_must (refine append_bytes _ rfl _ _ rfl w.heap.size (.slice A2 L1.length c2) L1 rfl o2 A _ c l rfl ((HR.out.below hB2).more hB2.size) (by have := HZ.out; omega) hB2.size ?_); intro vx w3 ox gx lx)
  have hB3 := below_of_puts hB2 gx _ o2
  clear gx lx o2 r2
  obtain ⟨L3, hL3⟩ : ∃ L3, L3 = L1 ++ l := ⟨_, rfl⟩
  rw [← hL3] at ox
  have HL3 := Lib.hid hL3
  have hz3 : L3.length = L1.length + n := by rw [hL3, List.length_append, HL.out]
  have HZ3 := Lib.hid hz3
  clear hL3 hz3
  obtain ⟨A3, c3, rfl, hnc3, r3⟩ := ox.reads
  clear ox
  go_wp2_with fail
  refine (wire_New A3 _ c3 w3).mono ?_
  rintro e w4 ⟨rfl, rfl⟩
  have HB4 := Lib.hid (hB3.alloc hB3.size (.cells #[.slice A3 L3.length c3, .int .i64 0, .int .i64 0] 113))
  have hgw0 := hB3.size
  have R0 : Rd (w3.alloc (.cells #[.slice A3 L3.length c3, .int .i64 0, .int .i64 0] 113)) w3.heap.size A3 L3.length c3 L3 0 0 :=
    ⟨Blk.new _ _ _, r3.alloc (Nat.le_refl _) _, Nat.zero_le _, by have := HZ3.out; have := HZ.out; omega, hnc3⟩
  clear hB2 hB3 r3 hnc3
  generalize w3.alloc (.cells #[.slice A3 L3.length c3, .int .i64 0, .int .i64 0] 113) = W0 at *
  have hgw : w.heap.size ≤ w3.heap.size := hgw0
  generalize w3.heap.size = g at *
  have hN := reader_Num W0 g A3 _ c3 L3 0 0 R0
  rw [List.drop_zero, show rNum L3 0 = (M, (wput M).length, 0) by rw [HL3.out, HL1.out]; exact P1.out] at hN
  simp only [Nat.zero_add] at hN
  have HN := Lib.hid hN
  clear hN R0
  go_wp2_with fail
  refine HN.out.mono ?_
  rintro e w5 ⟨rfl, R5, g5⟩
  have hT := reader_Text w5 g A3 _ c3 L3 (wput M).length 0 s.size R5
  have hP2 := P2.out
  rw [HS.out] at hP2
  rw [show rText (L3.drop (wput M).length) (s.size : Int) 0 = (s.data.toList, (wput s.size).length + s.size, 0) by rw [HL3.out, HL1.out]; exact hP2] at hT
  simp only [Array.toArray_toList] at hT
  have hz := HZ1.out
  have hz3 := HZ3.out
  rw [HS.out] at hz
  have hzz : L1.length = (wput M).length + ((wput s.size).length + s.size) := hz
  have HT := Lib.hid hT
  clear hT hP2 R5 hz
  go_wp2_with fail
  refine HT.out.mono ?_
  rintro e w6 ⟨rfl, R6, g6⟩
  rw [← hzz] at R6
  clear HT HN
  go_wp2_with fail
  refine (reader_Why w6 g _ _ _ _ _ _ R6).mono ?_
  rintro e w7 ⟨rfl, rfl⟩
  go_wp2_with fail
  refine (reader_At w6 g _ _ _ _ _ _ R6).mono ?_
  rintro e w7 ⟨rfl, rfl⟩
  go_wp2_with fail
  refine (reader_Left w6 g _ _ _ _ _ _ R6).mono ?_
  rintro e w7 ⟨rfl, dm, rfl⟩
  rw [show L3.length - L1.length = n by omega]
  go_wp2_with fail
  refine (alive03 _).mono ?_
  rintro e w8 ⟨rfl, b8⟩
  go_wp2_with fail
  go_ret
  have hB : Below w.heap.size w (w6.drewN dm) := Below.grown HB4.out (row := some g) (grown_trans' (grown_trans' g5 g6) (grown_drewN _ _ _)) HB4.out.size (fun k hk => by injection hk with hk; omega)
  exact ⟨rfl, hB.trans (b8.mono hB.size)⟩
end Go.Proofs.Ytnaaknkknhediaa
