/- The walk of the law PageReads: it returns true, and nothing that was there ahead of the call has turned. -/
import Derived.Test.YthbhbechemnidaaDoorPagF
import Derived.Test.YthbhbechemnidaaDoorPagT
import Derived.Test.YthbhbechemnidaaDoorPagD
import Derived.Test.YthbhbechemnidaaDoorRdrAt
namespace Go.Proofs.YthbhbechemnidaaDoor
open Go.RowKit Go.Sort

theorem reads_takeP {w : World} {B n : Nat} {A : Option Addr} {L : List UInt8} (h : Reads w B 1 A n (L.map vb)) (k : Nat) (hk : k ≤ n) : Reads w B 1 A k ((L.take k).map vb) := by
  have hl := h.len
  refine ⟨by simp; omega, fun h0 => ?_⟩
  obtain ⟨ad, hA, hb, hc⟩ := h.2 (by omega)
  refine ⟨ad, hA, hb, fun j u hu => hc j u ?_⟩
  rw [List.map_take] at hu
  have hj := (List.getElem?_eq_some_iff.1 hu).1
  rw [List.length_take] at hj
  rw [List.getElem?_take_of_lt (by omega)] at hu
  exact hu
/-- A row that is owned, as one that is read. -/
theorem OwnM.rdl {w : World} {base lo : Nat} {v : Value} {M : List Mut} (h : OwnM w base lo v M) : ∃ (L : List MutS) (A : Option Addr) (c : Nat), v = .slice A M.length c ∧ L.map (·.m) = M ∧ RdL w w.heap.size A M.length L := by
  obtain ⟨L, rfl, h1, h2, h3, h4⟩ := h.row
  obtain ⟨A, c, rfl, hc, hn, -⟩ := own_form h1
  rw [List.length_map]
  exact ⟨L, A, c, rfl, rfl, Reads.of_own h1, fun e he => ⟨(h2 e he).1, h3 e he⟩⟩
theorem txOk_of {m : Mut} (h : MutRt m) : TxOk m := by
  have hk := key_size h.2.1
  have he := (mutN_of h).en
  have hv := (mutN_of h).val
  exact ⟨by omega, by omega, by unfold maxLen; omega⟩

set_option maxRecDepth 100000 in
set_option maxHeartbeats 4000000 in
theorem page_reads_walk (w : World) (hT : Tabs w) (A0 : Option Addr) (n0 c0 : Nat) (l : List UInt8) (hnc : n0 ≤ c0) (hc0 : c0 ≤ maxLen) (hl0 : l.length = n0) (hr0 : Reads w w.heap.size 1 A0 n0 (l.map vb)) (hA0 : A0 = none → c0 = 0) :
    Calls Tryd.prog 11 #[.slice A0 n0 c0] w fun e w' => e = .returned (.bool true) ∧ Below w.heap.size w w' := by
  have hn0 : n0 ≤ 9223372036854775807 := by unfold maxLen at hc0; omega
  by_cases h2000 : 2000 < n0
  · have hd : decide (2000 < (n0 : Int)) = true := by simp; omega
    clear h2000 hr0 hl0 hA0 hT
    go_enter Tryd.func11, Tryd.ntmps11
    go_wp2_with fail
    go_ret
    exact ⟨rfl, Below.refl _ _⟩
  have hd : decide (2000 < (n0 : Int)) = false := by simp; omega
  have hs2000 : n0 ≤ 2000 := by omega
  have HT := Lib.hid hT
  have HR0 := Lib.hid hr0
  have HL0 := Lib.hid hl0
  have HA0 := Lib.hid hA0
  have hcm : c0 ≤ 9223372036854775807 := by unfold maxLen at hc0; omega
  clear hT hr0 hl0 hA0 h2000 hn0 hc0
  go_enter Tryd.func11, Tryd.ntmps11
  go_wp2_with fail
  clear hd
  refine (bytes_Clone A0 n0 c0 l w HR0.out HA0.out (by omega)).mono ?_
  rintro y u1 ⟨v1, rfl, O1, hB⟩
  obtain ⟨A1, c1, rfl, hc1, R1⟩ := O1.reads
  rw [HL0.out] at R1 hc1
  rw [HL0.out]
  have HR1 := Lib.hid R1
  clear O1 R1
  go_wp2_with fail
  refine (wire_New A1 n0 c1 u1).mono ?_
  rintro y u2 ⟨rfl, rfl⟩
  have R : Rd (u1.alloc (.cells #[.slice A1 n0 c1, .int .i64 0, .int .i64 0] 103)) u1.heap.size A1 n0 c1 l 0 0 := ⟨Blk.new _ _ _, HR1.out.alloc (Nat.le_refl _) _, Nat.zero_le _, by omega, hc1⟩
  have hgw := hB.size
  replace hB := hB.alloc hB.size (.cells #[.slice A1 n0 c1, .int .i64 0, .int .i64 0] 103)
  generalize u1.alloc (.cells #[.slice A1 n0 c1, .int .i64 0, .int .i64 0] 103) = W1 at *
  generalize u1.heap.size = g at *
  obtain ⟨M, k, yy, e9⟩ : ∃ a k' y', pPage l 0 0 = (a, k', y') := ⟨_, _, _, rfl⟩
  have C1 := Lib.hid (page_Get W1 (HT.out.in_ (Nat.le_refl _) hB) g A1 n0 c1 l 0 0 R)
  rw [e9] at C1
  have HE := Lib.hid e9
  clear R e9
  go_wp2_with fail
  refine C1.out.mono ?_
  clear C1
  rintro y u3 ⟨v9, rfl, O9, ⟨k', hk', R⟩, G⟩
  replace hB := Below.grown hB G hB.size (fun q hq => by injection hq with hq; omega)
  clear G HR1
  by_cases hy : yy = 0
  case neg =>
    rw [if_neg hy] at O9
    obtain ⟨A9, c9, rfl, -, -, -⟩ := O9.rd
    have hyn : (yy != 0) = true := by simp [hy]
    clear hy O9
    go_wp2_with fail
    refine (reader_Why u3 g A1 n0 c1 l k' yy R).mono ?_
    rintro x w9 ⟨rfl, rfl⟩
    go_wp2_with fail
    refine (alive15 u3 (HT.out.in_ (Nat.le_refl _) hB)).mono ?_
    rintro x u5 ⟨rfl, b5⟩
    replace hB := hB.trans (b5.mono hB.size)
    go_wp2_with fail
    go_ret
    exact ⟨rfl, hB⟩
  subst hy
  rw [if_pos rfl] at O9
  rw [hk' rfl] at R
  have hyn : ((0 : Int) != 0) = false := rfl
  obtain ⟨-, htk, hok, hM8⟩ := sound_page.use HE.out (Nat.zero_le _) rfl
  have hkn := R.kn
  have HTK := Lib.hid (show l.take k = pgPut M by simpa using htk)
  have HOK := Lib.hid hok
  obtain ⟨L9, A9, c9, rfl, hL9, hr9⟩ := O9.rdl
  have HRL := Lib.hid hr9
  have HLM := Lib.hid hL9
  obtain ⟨m, hm⟩ : ∃ m, M.length = m := ⟨_, rfl⟩
  have HML := Lib.hid hm
  rw [hm] at HRL hM8
  rw [hm]
  clear htk hok O9 hL9 hr9 hm hk'
  have HTX : Hid (∀ e ∈ L9, TxOk e.m) := Lib.hid (fun e he => txOk_of (HOK.out.rt _ (by rw [← HLM.out]; exact List.mem_map_of_mem he)))
  go_wp2_with fail
  refine (reader_Why u3 g A1 n0 c1 l k 0 R).mono ?_
  rintro x u3 ⟨rfl, rfl⟩
  have C2 := ref09_Right A9 m c9 L9 u3.heap.size u3 (HT.out.in_ (Nat.le_refl _) hB) HRL.out HTX.out (Nat.le_refl _) (by omega)
  rw [HLM.out] at C2
  have C2 := Lib.hid C2
  clear HTX
  go_wp2_with fail
  refine C2.out.mono ?_
  clear C2
  rintro x u4 ⟨v4, rfl, O4, b4⟩
  obtain ⟨A4, c4, L4, rfl, -, -, hL4, hr4⟩ := O4.rd
  have hl4 : (right9 M).length ≤ 1000 := by
    have := right9_len M []
    have hm := HML.out
    unfold right9
    simp at this
    omega
  have C3 := ref15_Sort A4 (right9 M).length c4 L4 u3.heap.size u4 hr4 b4.size hl4
  rw [hL4, sorted_same HOK.out] at C3
  have C3 := Lib.hid C3
  have hB4 := hB.trans (b4.mono hB.size)
  have HB4 := Lib.hid b4
  clear O4 hL4 hr4 b4 hl4
  go_wp2_with fail
  refine C3.out.mono ?_
  clear C3
  rintro x u5 ⟨v5, rfl, O5, b5⟩
  obtain ⟨A5, c5, L5, rfl, -, -, hL5, hr5⟩ := O5.rd
  have hb5 := HB4.out.trans (b5.mono HB4.out.size)
  have hB5 := hB.trans (hb5.mono hB.size)
  have RM9 := (HRL.out.rdm (Nat.le_refl _)).below hb5
  rw [HLM.out] at RM9
  have RM5 := hr5.rdm hb5.size
  rw [hL5] at RM5
  have C4 := ref07_Same A9 A5 m c9 M.length c5 M M u5 RM9 RM5 (by omega)
  rw [sameM_selfP] at C4
  have C4 := Lib.hid C4
  have HRM9 := Lib.hid RM9
  have R5 := R.below hb5
  clear O5 hL5 hr5 RM5 RM9 b5 hB4 HB4 R
  rw [HML.out] at C4 ⊢
  go_wp2_with fail
  refine C4.out.mono ?_
  clear C4
  rintro x u6 ⟨rfl, b6⟩
  replace HRM9 := Lib.hid (HRM9.out.below b6)
  have R6 := R5.below b6
  have hB6 := hB5.trans (b6.mono hB5.size)
  have C5 := Lib.hid (ref15_Put A9 m c9 M u6 HRM9.out HOK.out.rt (by omega))
  clear b6 R5 hB5
  go_wp2_with fail
  refine C5.out.mono ?_
  clear C5
  rintro x u7 ⟨v7, rfl, O7, b7⟩
  obtain ⟨A7, c7, rfl, -, R7⟩ := O7.reads
  have HR7 := Lib.hid R7
  have hB7 := hB6.trans (b7.mono hB6.size)
  have R8 := R6.below b7
  have hkc : (k : Int) ≤ (c0 : Int) := by omega
  have hk0 : (0 : Int) ≤ (k : Int) := by omega
  clear O7 R7 R6 hB6 b7 hb5
  go_wp2_with fail
  refine (reader_At u7 g A1 n0 c1 l k 0 R8).mono ?_
  rintro x u8 ⟨rfl, rfl⟩
  have hE := bytes_Equal A7 A0 (pgPut M).length k c7 c0 (pgPut M) (l.take k) u7 HR7.out ((reads_takeP (HR0.out.below hB7) k (by omega)).more hB7.size) (by have := congrArg List.length HTK.out; rw [List.length_take, HL0.out] at this; omega)
  rw [HTK.out, decide_eq_true rfl] at hE
  have CE := Lib.hid hE
  clear hE
  go_wp2_with fail
  refine CE.out.mono ?_
  clear CE
  rintro x w10 ⟨rfl, b10⟩
  have hB10 := hB7.trans (b10.mono hB7.size)
  clear b10
  go_wp2_with fail
  refine (alive15 w10 (HT.out.in_ (Nat.le_refl _) hB10)).mono ?_
  rintro x w11 ⟨rfl, b11⟩
  have hB11 := hB10.trans (b11.mono hB10.size)
  go_wp2_with fail
  go_ret
  exact ⟨rfl, hB11⟩
end Go.Proofs.YthbhbechemnidaaDoor
