/- Contracts of step.form, tables, levels, word and tell, and of the reference's word, number, quote and part. -/
import Derived.Test.YtimmfcbpdnlfjaaDoorStpP
import Derived.Test.YtimmfcbpdnlfjaaDoorRnX
import Derived.Test.YtimmfcbpdnlfjaaDoorRnY
import Derived.Test.YtimmfcbpdnlfjaaDoorNumsC
import Derived.Test.YtimmfcbpdnlfjaaDoorMixN
import Derived.Shelf.Abstract
namespace Go.Proofs.YtimmfcbpdnlfjaaDoor
open Go.RowKit Go.Sort
set_option linter.unusedVariables false

def stpC (s : Stp) : Array Value := #[.int .i64 s.kind, .int .i64 s.n, .int .i64 s.ticks, .int .i64 s.tab, .int .i64 s.lev, .string s.key, .string s.en, .string s.val, .int .i64 s.ctx]

set_option maxRecDepth 100000 in
set_option maxHeartbeats 8000000 in
theorem step_form (k : Int) (w : World) : Calls Tryd.prog 18 #[.int .i64 k] w fun e w' => e = .returned (.tuple #[.string ⟨(formP k).1.toArray⟩, .string ⟨((formP k).2.map codeP).toArray⟩]) ∧ w = w' := by
  rcases kind_cases k with h | ⟨h, hn⟩
  · have hc : k = 1 ∨ k = 2 ∨ k = 3 ∨ k = 4 ∨ k = 5 ∨ k = 6 ∨ k = 7 ∨ k = 8 ∨ k = 9 ∨ k = 10 ∨ k = 11 ∨ k = 12 ∨ k = 13 ∨ k = 14 ∨ k = 15 ∨ k = 16 ∨ k = 17 := by omega
    rcases hc with rfl | rfl | rfl | rfl | rfl | rfl | rfl | rfl | rfl | rfl | rfl | rfl | rfl | rfl | rfl | rfl | rfl
    all_goals
      go_enter Tryd.func18, Tryd.ntmps18
      go_wp2_with fail
      go_returns
      exact ⟨rfl, rfl⟩
  · rw [h]
    clear h
    have e1 : (k == 1) = false := beq_eq_false_iff_ne.2 (by omega)
    have e2 : (k == 2) = false := beq_eq_false_iff_ne.2 (by omega)
    have e3 : (k == 3) = false := beq_eq_false_iff_ne.2 (by omega)
    have e4 : (k == 4) = false := beq_eq_false_iff_ne.2 (by omega)
    have e5 : (k == 5) = false := beq_eq_false_iff_ne.2 (by omega)
    have e6 : (k == 6) = false := beq_eq_false_iff_ne.2 (by omega)
    have e7 : (k == 7) = false := beq_eq_false_iff_ne.2 (by omega)
    have e8 : (k == 8) = false := beq_eq_false_iff_ne.2 (by omega)
    have e9 : (k == 9) = false := beq_eq_false_iff_ne.2 (by omega)
    have e10 : (k == 10) = false := beq_eq_false_iff_ne.2 (by omega)
    have e11 : (k == 11) = false := beq_eq_false_iff_ne.2 (by omega)
    have e12 : (k == 12) = false := beq_eq_false_iff_ne.2 (by omega)
    have e13 : (k == 13) = false := beq_eq_false_iff_ne.2 (by omega)
    have e14 : (k == 14) = false := beq_eq_false_iff_ne.2 (by omega)
    have e15 : (k == 15) = false := beq_eq_false_iff_ne.2 (by omega)
    have e16 : (k == 16) = false := beq_eq_false_iff_ne.2 (by omega)
    have e17 : (k == 17) = false := beq_eq_false_iff_ne.2 (by omega)
    go_enter Tryd.func18, Tryd.ntmps18
    go_wp2_with fail
    go_returns
    exact ⟨rfl, rfl⟩

set_option maxRecDepth 100000 in
set_option maxHeartbeats 8000000 in
theorem ref40_word (k : Int) (w : World) : Calls Tryd.prog 21 #[.int .i64 k] w fun e w' => e = .returned (.tuple #[.string ⟨(formP k).1.toArray⟩, .string ⟨((formP k).2.map codeR).toArray⟩]) ∧ w = w' := by
  rcases kind_cases k with h | ⟨h, hn⟩
  · have hc : k = 1 ∨ k = 2 ∨ k = 3 ∨ k = 4 ∨ k = 5 ∨ k = 6 ∨ k = 7 ∨ k = 8 ∨ k = 9 ∨ k = 10 ∨ k = 11 ∨ k = 12 ∨ k = 13 ∨ k = 14 ∨ k = 15 ∨ k = 16 ∨ k = 17 := by omega
    rcases hc with rfl | rfl | rfl | rfl | rfl | rfl | rfl | rfl | rfl | rfl | rfl | rfl | rfl | rfl | rfl | rfl | rfl
    all_goals
      go_enter Tryd.func21, Tryd.ntmps21
      go_wp2_with fail
      go_returns
      exact ⟨rfl, rfl⟩
  · rw [h]
    clear h
    have e1 : (k == 1) = false := beq_eq_false_iff_ne.2 (by omega)
    have e2 : (k == 2) = false := beq_eq_false_iff_ne.2 (by omega)
    have e3 : (k == 3) = false := beq_eq_false_iff_ne.2 (by omega)
    have e4 : (k == 4) = false := beq_eq_false_iff_ne.2 (by omega)
    have e5 : (k == 5) = false := beq_eq_false_iff_ne.2 (by omega)
    have e6 : (k == 6) = false := beq_eq_false_iff_ne.2 (by omega)
    have e7 : (k == 7) = false := beq_eq_false_iff_ne.2 (by omega)
    have e8 : (k == 8) = false := beq_eq_false_iff_ne.2 (by omega)
    have e9 : (k == 9) = false := beq_eq_false_iff_ne.2 (by omega)
    have e10 : (k == 10) = false := beq_eq_false_iff_ne.2 (by omega)
    have e11 : (k == 11) = false := beq_eq_false_iff_ne.2 (by omega)
    have e12 : (k == 12) = false := beq_eq_false_iff_ne.2 (by omega)
    have e13 : (k == 13) = false := beq_eq_false_iff_ne.2 (by omega)
    have e14 : (k == 14) = false := beq_eq_false_iff_ne.2 (by omega)
    have e15 : (k == 15) = false := beq_eq_false_iff_ne.2 (by omega)
    have e16 : (k == 16) = false := beq_eq_false_iff_ne.2 (by omega)
    have e17 : (k == 17) = false := beq_eq_false_iff_ne.2 (by omega)
    go_enter Tryd.func21, Tryd.ntmps21
    go_wp2_with fail
    go_returns
    exact ⟨rfl, rfl⟩

/-- 'a[i]' of an array by value whose elements have one cell each. -/
theorem run_index_cells {P : Program} (w : World) (t e : TypeId) (n : Nat) (cs : Array Value) (i : Nat) (x : Value) (h : P.underlying t = some (.array n e)) (hz : ∀ w, (sizeOf e).run P w = .ok 1 w) (hg : ∀ w, (isAgg e).run P w = .ok false w) (h1 : i < n) (hx : cs[i]? = some x) :
    (Instr.index t (.agg cs) (.int .i64 (i : Int))).run P w = .ok x w := by
  have hn : (0 ≤ (i : Int) ∧ (i : Int) < (n : Int)) := by omega
  simp [Instr.index, run_underlying h, asIntOf, hn, hz, hg, h1, hx, go_sem]
theorem text_lt_max (l : List UInt8) (h : l.length ≤ 1000) : (⟨l.toArray⟩ : ByteArray).size ≤ 1000 := h

/-- A row of names in a block of its own. -/
def NamesAt (w : World) (g : Nat) (N : List (List UInt8)) : Prop := Blk w g 9 ((N.map sv).toArray)

set_option maxRecDepth 100000 in
theorem step_tables (w : World) : Calls Tryd.prog 38 #[] w fun e w' => e = .returned (.slice (some ⟨w.heap.size, 0, none⟩) 2 2) ∧ w' = w.alloc (.cells ((tabN.map sv).toArray) 9) := by
  go_enter Tryd.func38, Tryd.ntmps38
  go_wp2_with fail
  go_ret
  exact ⟨rfl, rfl⟩
set_option maxRecDepth 100000 in
theorem step_levels (w : World) : Calls Tryd.prog 39 #[] w fun e w' => e = .returned (.slice (some ⟨w.heap.size, 0, none⟩) 3 3) ∧ w' = w.alloc (.cells ((levN.map sv).toArray) 9) := by
  go_enter Tryd.func39, Tryd.ntmps39
  go_wp2_with fail
  go_ret
  exact ⟨rfl, rfl⟩
set_option maxRecDepth 100000 in
theorem step_word (g : Nat) (N : List (List UInt8)) (x : Int) (w : World) (hb : NamesAt w g N) (hN : N.length ≤ 10) :
    Calls Tryd.prog 45 #[.slice (some ⟨g, 0, none⟩) N.length N.length, .int .i64 x] w fun e w' => e = .returned (.string ⟨(wordW N x).toArray⟩) ∧ w = w' := by
  obtain ⟨m, hm⟩ : ∃ m, N.length = m := ⟨_, rfl⟩
  by_cases h1 : x < 1
  · have d1 : decide (x < 1) = true := by simp [h1]
    have F : Hid (wordW N x = []) := Lib.hid (by unfold wordW; rw [if_neg (by omega)])
    rw [F.out, hm]
    go_enter Tryd.func45, Tryd.ntmps45
    go_wp2_with fail
    go_ret
    exact ⟨rfl, rfl⟩
  have d1 : decide (x < 1) = false := by simp; omega
  by_cases h2 : (m : Int) < x
  · have d2 : decide (x > (m : Int)) = true := by simp [h2]
    have F : Hid (wordW N x = []) := Lib.hid (by unfold wordW; rw [if_neg (by omega)])
    rw [F.out, hm]
    clear hm
    go_enter Tryd.func45, Tryd.ntmps45
    go_wp2_with fail
    go_ret
    exact ⟨rfl, rfl⟩
  have d2 : decide (x > (m : Int)) = false := by simp; omega
  obtain ⟨j, hj⟩ : ∃ j : Nat, x = (j : Int) + 1 := ⟨(x - 1).toNat, by omega⟩
  subst hj
  have hjl : j < N.length := by omega
  have hjm : j < m := by omega
  have hm10 : m ≤ 10 := by omega
  have hji : ((j : Int) + 1) - 1 = (j : Int) := by omega
  have q0 : w.cell? ⟨g, j, none⟩ = some (.string ⟨N[j].toArray⟩) := by
    rw [Blk.cell hb j]
    simp [sv, hjl]
  have F : Hid (wordW N ((j : Int) + 1) = N[j]) := Lib.hid (by
    unfold wordW
    rw [if_pos (by omega), hji, Int.toNat_natCast, List.getD_eq_getElem?_getD, List.getElem?_eq_getElem hjl]
    rfl)
  rw [F.out, hm]
  generalize N[j] = t at q0 ⊢
  clear hb hN hm F
  go_enter Tryd.func45, Tryd.ntmps45
  go_wp2_with fail
  go_ret
  exact ⟨rfl, rfl⟩
set_option maxRecDepth 100000 in
theorem step_num (x : Int) (w : World) : Calls Tryd.prog 43 #[.int .i64 x] w fun e w' => e = .returned (.string ⟨(numW x).toArray⟩) ∧ Below w.heap.size w w' := by
  by_cases h1 : x < 0
  · have d1 : decide (x < 0) = true := by simp [h1]
    have F : Hid (numW x = []) := Lib.hid (by unfold numW; rw [if_neg (by omega)])
    rw [F.out]
    go_enter Tryd.func43, Tryd.ntmps43
    go_wp2_with fail
    go_ret
    exact ⟨rfl, Below.refl _ _⟩
  have d1 : decide (x < 0) = false := by simp; omega
  by_cases h2 : 1125899906842624 < x
  · have d2 : decide (x > 1125899906842624) = true := by simp [h2]
    have F : Hid (numW x = []) := Lib.hid (by unfold numW; rw [if_neg (by omega)])
    rw [F.out]
    go_enter Tryd.func43, Tryd.ntmps43
    go_wp2_with fail
    go_ret
    exact ⟨rfl, Below.refl _ _⟩
  have d2 : decide (x > 1125899906842624) = false := by simp; omega
  have F : Hid ((dec (cut50 x).toNat) = numW x) := Lib.hid (by rw [show cut50 x = x by unfold cut50; omega]; unfold numW; rw [if_pos (by omega)])
  have C := Lib.hid (nums_Text x w)
  rw [F.out] at C
  go_enter Tryd.func43, Tryd.ntmps43
  go_wp2_with fail
  refine C.out.mono ?_
  rintro e w1 ⟨rfl, b1⟩
  go_wp2_with fail
  go_ret
  exact ⟨rfl, b1⟩
set_option maxRecDepth 100000 in
theorem ref40_number (x : Int) (w : World) : Calls Tryd.prog 48 #[.int .i64 x] w fun e w' => e = .returned (.string ⟨(numW x).toArray⟩) ∧ w = w' := by
  have C1 := Lib.hid (ref02_Cut x w)
  by_cases h1 : 0 ≤ x ∧ x ≤ 1125899906842624
  · have hc : cut50 x = x := by unfold cut50; omega
    have F : Hid ((dec (cut50 x).toNat) = numW x) := Lib.hid (by rw [hc]; unfold numW; rw [if_pos h1])
    have C := Lib.hid (ref02_Text x w)
    rw [F.out] at C
    rw [hc] at C1
    have d1 : (x != x) = false := by simp
    clear h1
    go_enter Tryd.func48, Tryd.ntmps48
    go_wp2_with fail
    refine C1.out.mono ?_
    rintro e w1 ⟨rfl, rfl⟩
    go_wp2_with fail
    refine C.out.mono ?_
    rintro e w1 ⟨rfl, rfl⟩
    go_wp2_with fail
    go_ret
    exact ⟨rfl, rfl⟩
  · have F : Hid (numW x = []) := Lib.hid (by unfold numW; rw [if_neg h1])
    obtain ⟨z, hz⟩ : ∃ z, cut50 x = z := ⟨_, rfl⟩
    have hne : (x != z) = true := by rw [bne_iff_ne, ← hz]; unfold cut50; omega
    rw [hz] at C1
    rw [F.out]
    clear h1 hz
    go_enter Tryd.func48, Tryd.ntmps48
    go_wp2_with fail
    refine C1.out.mono ?_
    rintro e w1 ⟨rfl, rfl⟩
    go_wp2_with fail
    go_ret
    exact ⟨rfl, rfl⟩
set_option maxRecDepth 100000 in
theorem ref40_quote (s : ByteArray) (w : World) (hs : s.size ≤ 1000000000) (hT : Tabs w) : Calls Tryd.prog 49 #[.string s] w fun e w' => e = .returned (.string ⟨(textW s).toArray⟩) ∧ Below w.heap.size w w' := by
  by_cases h : 64 < s.size
  · have F : Hid (textW s = []) := Lib.hid (by unfold textW; rw [if_pos h])
    have d1 : decide ((s.size : Int) > 64) = true := by simp; omega
    rw [F.out]
    go_enter Tryd.func49, Tryd.ntmps49
    go_wp2_with fail
    go_ret
    exact ⟨rfl, Below.refl _ _⟩
  · have F : Hid (quoteP s = textW s) := Lib.hid (by unfold textW; rw [if_neg h])
    have d1 : decide ((s.size : Int) > 64) = false := by simp; omega
    have C := Lib.hid (ref01_Quote s hs w hT)
    rw [F.out] at C
    clear hT
    go_enter Tryd.func49, Tryd.ntmps49
    go_wp2_with fail
    refine C.out.mono ?_
    rintro e w1 ⟨rfl, b1⟩
    go_wp2_with fail
    go_ret
    exact ⟨rfl, b1⟩

set_option maxRecDepth 100000 in
set_option maxHeartbeats 2000000 in
theorem step_tell_n (s : Stp) (w : World) (hz : s.key.size ≤ 1000000000 ∧ s.en.size ≤ 1000000000 ∧ s.val.size ≤ 1000000000) (hT : Tabs w) :
    Calls Tryd.prog 25 #[.agg (stpC s), .int .u8 ((codeP .n).toNat : Int)] w fun e w' => e = .returned (.string ⟨(tellP s .n).toArray⟩) ∧ Below w.heap.size w w' := by
  obtain ⟨W, hW⟩ : ∃ W, w.alloc (.cells (stpC s) 26) = W := ⟨_, rfl⟩
  have bW : Below w.heap.size w W := by rw [← hW]; exact (Below.refl _ _).alloc (Nat.le_refl _) _
  have BS : Blk W w.heap.size 26 (stpC s) := by rw [← hW]; exact Blk.new _ _ _
  have HT := Lib.hid (hT.below bW)
  have s0 : W.cell? ⟨w.heap.size, 0, none⟩ = some (.int .i64 s.kind) := BS.cell 0
  have s1 : W.cell? ⟨w.heap.size, 1, none⟩ = some (.int .i64 s.n) := BS.cell 1
  have s2 : W.cell? ⟨w.heap.size, 2, none⟩ = some (.int .i64 s.ticks) := BS.cell 2
  have s3 : W.cell? ⟨w.heap.size, 3, none⟩ = some (.int .i64 s.tab) := BS.cell 3
  have s4 : W.cell? ⟨w.heap.size, 4, none⟩ = some (.int .i64 s.lev) := BS.cell 4
  have s5 : W.cell? ⟨w.heap.size, 5, none⟩ = some (.string s.key) := BS.cell 5
  have s6 : W.cell? ⟨w.heap.size, 6, none⟩ = some (.string s.en) := BS.cell 6
  have s7 : W.cell? ⟨w.heap.size, 7, none⟩ = some (.string s.val) := BS.cell 7
  have s8 : W.cell? ⟨w.heap.size, 8, none⟩ = some (.int .i64 s.ctx) := BS.cell 8
  rw [show ((codeP .n).toNat : Int) = 110 from rfl]
  unfold stpC at hW ⊢
  have eg : ∀ args w, (callFunc 43 args).run Tryd.prog w = .ok (.enter 43 args) w := enters_of Tryd.func43 (by kernel_rfl) rfl
  go_enter Tryd.func25, Tryd.ntmps25
  go_wp2_with fail
  clear hW
  refine (step_num s.n W).mono ?_
  rintro e w1 ⟨rfl, b1⟩
  go_wp2_with fail
  go_ret
  exact ⟨rfl, bW.trans (b1.mono bW.size)⟩

set_option maxRecDepth 100000 in
set_option maxHeartbeats 2000000 in
theorem ref40_part_n (s : Stp) (w : World) (hz : s.key.size ≤ 1000000000 ∧ s.en.size ≤ 1000000000 ∧ s.val.size ≤ 1000000000) (hT : Tabs w) :
    Calls Tryd.prog 27 #[.agg (stpC s), .int .u8 ((codeR .n).toNat : Int)] w fun e w' => e = .returned (.string ⟨(tellP s .n).toArray⟩) ∧ Below w.heap.size w w' := by
  obtain ⟨W, hW⟩ : ∃ W, w.alloc (.cells (stpC s) 26) = W := ⟨_, rfl⟩
  have bW : Below w.heap.size w W := by rw [← hW]; exact (Below.refl _ _).alloc (Nat.le_refl _) _
  have BS : Blk W w.heap.size 26 (stpC s) := by rw [← hW]; exact Blk.new _ _ _
  have HT := Lib.hid (hT.below bW)
  have s0 : W.cell? ⟨w.heap.size, 0, none⟩ = some (.int .i64 s.kind) := BS.cell 0
  have s1 : W.cell? ⟨w.heap.size, 1, none⟩ = some (.int .i64 s.n) := BS.cell 1
  have s2 : W.cell? ⟨w.heap.size, 2, none⟩ = some (.int .i64 s.ticks) := BS.cell 2
  have s3 : W.cell? ⟨w.heap.size, 3, none⟩ = some (.int .i64 s.tab) := BS.cell 3
  have s4 : W.cell? ⟨w.heap.size, 4, none⟩ = some (.int .i64 s.lev) := BS.cell 4
  have s5 : W.cell? ⟨w.heap.size, 5, none⟩ = some (.string s.key) := BS.cell 5
  have s6 : W.cell? ⟨w.heap.size, 6, none⟩ = some (.string s.en) := BS.cell 6
  have s7 : W.cell? ⟨w.heap.size, 7, none⟩ = some (.string s.val) := BS.cell 7
  have s8 : W.cell? ⟨w.heap.size, 8, none⟩ = some (.int .i64 s.ctx) := BS.cell 8
  rw [show ((codeR .n).toNat : Int) = 78 from rfl]
  unfold stpC at hW ⊢
  go_enter Tryd.func27, Tryd.ntmps27
  go_wp2_with fail
  clear hW
  refine (ref40_number s.n W).mono ?_
  rintro e w1 ⟨rfl, rfl⟩
  go_wp2_with fail
  go_ret
  exact ⟨rfl, bW⟩

set_option maxRecDepth 100000 in
set_option maxHeartbeats 2000000 in
theorem step_tell_t (s : Stp) (w : World) (hz : s.key.size ≤ 1000000000 ∧ s.en.size ≤ 1000000000 ∧ s.val.size ≤ 1000000000) (hT : Tabs w) :
    Calls Tryd.prog 25 #[.agg (stpC s), .int .u8 ((codeP .t).toNat : Int)] w fun e w' => e = .returned (.string ⟨(tellP s .t).toArray⟩) ∧ Below w.heap.size w w' := by
  obtain ⟨W, hW⟩ : ∃ W, w.alloc (.cells (stpC s) 26) = W := ⟨_, rfl⟩
  have bW : Below w.heap.size w W := by rw [← hW]; exact (Below.refl _ _).alloc (Nat.le_refl _) _
  have BS : Blk W w.heap.size 26 (stpC s) := by rw [← hW]; exact Blk.new _ _ _
  have HT := Lib.hid (hT.below bW)
  have s0 : W.cell? ⟨w.heap.size, 0, none⟩ = some (.int .i64 s.kind) := BS.cell 0
  have s1 : W.cell? ⟨w.heap.size, 1, none⟩ = some (.int .i64 s.n) := BS.cell 1
  have s2 : W.cell? ⟨w.heap.size, 2, none⟩ = some (.int .i64 s.ticks) := BS.cell 2
  have s3 : W.cell? ⟨w.heap.size, 3, none⟩ = some (.int .i64 s.tab) := BS.cell 3
  have s4 : W.cell? ⟨w.heap.size, 4, none⟩ = some (.int .i64 s.lev) := BS.cell 4
  have s5 : W.cell? ⟨w.heap.size, 5, none⟩ = some (.string s.key) := BS.cell 5
  have s6 : W.cell? ⟨w.heap.size, 6, none⟩ = some (.string s.en) := BS.cell 6
  have s7 : W.cell? ⟨w.heap.size, 7, none⟩ = some (.string s.val) := BS.cell 7
  have s8 : W.cell? ⟨w.heap.size, 8, none⟩ = some (.int .i64 s.ctx) := BS.cell 8
  rw [show ((codeP .t).toNat : Int) = 116 from rfl]
  unfold stpC at hW ⊢
  have eg : ∀ args w, (callFunc 43 args).run Tryd.prog w = .ok (.enter 43 args) w := enters_of Tryd.func43 (by kernel_rfl) rfl
  go_enter Tryd.func25, Tryd.ntmps25
  go_wp2_with fail
  clear hW
  refine (step_num s.ticks W).mono ?_
  rintro e w1 ⟨rfl, b1⟩
  go_wp2_with fail
  go_ret
  exact ⟨rfl, bW.trans (b1.mono bW.size)⟩

set_option maxRecDepth 100000 in
set_option maxHeartbeats 2000000 in
theorem ref40_part_t (s : Stp) (w : World) (hz : s.key.size ≤ 1000000000 ∧ s.en.size ≤ 1000000000 ∧ s.val.size ≤ 1000000000) (hT : Tabs w) :
    Calls Tryd.prog 27 #[.agg (stpC s), .int .u8 ((codeR .t).toNat : Int)] w fun e w' => e = .returned (.string ⟨(tellP s .t).toArray⟩) ∧ Below w.heap.size w w' := by
  obtain ⟨W, hW⟩ : ∃ W, w.alloc (.cells (stpC s) 26) = W := ⟨_, rfl⟩
  have bW : Below w.heap.size w W := by rw [← hW]; exact (Below.refl _ _).alloc (Nat.le_refl _) _
  have BS : Blk W w.heap.size 26 (stpC s) := by rw [← hW]; exact Blk.new _ _ _
  have HT := Lib.hid (hT.below bW)
  have s0 : W.cell? ⟨w.heap.size, 0, none⟩ = some (.int .i64 s.kind) := BS.cell 0
  have s1 : W.cell? ⟨w.heap.size, 1, none⟩ = some (.int .i64 s.n) := BS.cell 1
  have s2 : W.cell? ⟨w.heap.size, 2, none⟩ = some (.int .i64 s.ticks) := BS.cell 2
  have s3 : W.cell? ⟨w.heap.size, 3, none⟩ = some (.int .i64 s.tab) := BS.cell 3
  have s4 : W.cell? ⟨w.heap.size, 4, none⟩ = some (.int .i64 s.lev) := BS.cell 4
  have s5 : W.cell? ⟨w.heap.size, 5, none⟩ = some (.string s.key) := BS.cell 5
  have s6 : W.cell? ⟨w.heap.size, 6, none⟩ = some (.string s.en) := BS.cell 6
  have s7 : W.cell? ⟨w.heap.size, 7, none⟩ = some (.string s.val) := BS.cell 7
  have s8 : W.cell? ⟨w.heap.size, 8, none⟩ = some (.int .i64 s.ctx) := BS.cell 8
  rw [show ((codeR .t).toNat : Int) = 83 from rfl]
  unfold stpC at hW ⊢
  go_enter Tryd.func27, Tryd.ntmps27
  go_wp2_with fail
  clear hW
  refine (ref40_number s.ticks W).mono ?_
  rintro e w1 ⟨rfl, rfl⟩
  go_wp2_with fail
  go_ret
  exact ⟨rfl, bW⟩

set_option maxRecDepth 100000 in
set_option maxHeartbeats 2000000 in
theorem step_tell_c (s : Stp) (w : World) (hz : s.key.size ≤ 1000000000 ∧ s.en.size ≤ 1000000000 ∧ s.val.size ≤ 1000000000) (hT : Tabs w) :
    Calls Tryd.prog 25 #[.agg (stpC s), .int .u8 ((codeP .c).toNat : Int)] w fun e w' => e = .returned (.string ⟨(tellP s .c).toArray⟩) ∧ Below w.heap.size w w' := by
  obtain ⟨W, hW⟩ : ∃ W, w.alloc (.cells (stpC s) 26) = W := ⟨_, rfl⟩
  have bW : Below w.heap.size w W := by rw [← hW]; exact (Below.refl _ _).alloc (Nat.le_refl _) _
  have BS : Blk W w.heap.size 26 (stpC s) := by rw [← hW]; exact Blk.new _ _ _
  have HT := Lib.hid (hT.below bW)
  have s0 : W.cell? ⟨w.heap.size, 0, none⟩ = some (.int .i64 s.kind) := BS.cell 0
  have s1 : W.cell? ⟨w.heap.size, 1, none⟩ = some (.int .i64 s.n) := BS.cell 1
  have s2 : W.cell? ⟨w.heap.size, 2, none⟩ = some (.int .i64 s.ticks) := BS.cell 2
  have s3 : W.cell? ⟨w.heap.size, 3, none⟩ = some (.int .i64 s.tab) := BS.cell 3
  have s4 : W.cell? ⟨w.heap.size, 4, none⟩ = some (.int .i64 s.lev) := BS.cell 4
  have s5 : W.cell? ⟨w.heap.size, 5, none⟩ = some (.string s.key) := BS.cell 5
  have s6 : W.cell? ⟨w.heap.size, 6, none⟩ = some (.string s.en) := BS.cell 6
  have s7 : W.cell? ⟨w.heap.size, 7, none⟩ = some (.string s.val) := BS.cell 7
  have s8 : W.cell? ⟨w.heap.size, 8, none⟩ = some (.int .i64 s.ctx) := BS.cell 8
  rw [show ((codeP .c).toNat : Int) = 99 from rfl]
  unfold stpC at hW ⊢
  by_cases h1 : s.ctx < -1
  · have d1 : decide (s.ctx < -1) = true := by simp [h1]
    have F : Hid (tellP s .c = []) := Lib.hid (by unfold tellP; dsimp only; rw [if_pos (.inl h1)])
    rw [F.out]
    go_enter Tryd.func25, Tryd.ntmps25
    go_wp2_with fail
    go_ret
    exact ⟨rfl, bW⟩
  have d1 : decide (s.ctx < -1) = false := by simp; omega
  by_cases h2 : 1125899906842624 ≤ s.ctx
  · have d2 : decide (s.ctx ≥ 1125899906842624) = true := by simp [h2]
    have d3 : decide (s.ctx > 1125899906842623) = true := by simp; omega
    have F : Hid (tellP s .c = []) := Lib.hid (by unfold tellP; dsimp only; rw [if_pos (.inr h2)])
    rw [F.out]
    go_enter Tryd.func25, Tryd.ntmps25
    go_wp2_with fail
    go_ret
    exact ⟨rfl, bW⟩
  have d2 : decide (s.ctx ≥ 1125899906842624) = false := by simp; omega
  have d3 : decide (s.ctx > 1125899906842623) = false := by simp; omega
  have F : Hid (tellP s .c = numW (s.ctx + 1)) := Lib.hid (by unfold tellP; dsimp only; rw [if_neg (by omega)])
  rw [F.out]
  have eg : ∀ args w, (callFunc 43 args).run Tryd.prog w = .ok (.enter 43 args) w := enters_of Tryd.func43 (by kernel_rfl) rfl
  go_enter Tryd.func25, Tryd.ntmps25
  go_wp2_with fail
  clear hW
  refine (step_num (s.ctx + 1) W).mono ?_
  rintro e w1 ⟨rfl, b1⟩
  go_wp2_with fail
  go_ret
  exact ⟨rfl, bW.trans (b1.mono bW.size)⟩

set_option maxRecDepth 100000 in
set_option maxHeartbeats 2000000 in
theorem ref40_part_c (s : Stp) (w : World) (hz : s.key.size ≤ 1000000000 ∧ s.en.size ≤ 1000000000 ∧ s.val.size ≤ 1000000000) (hT : Tabs w) :
    Calls Tryd.prog 27 #[.agg (stpC s), .int .u8 ((codeR .c).toNat : Int)] w fun e w' => e = .returned (.string ⟨(tellP s .c).toArray⟩) ∧ Below w.heap.size w w' := by
  obtain ⟨W, hW⟩ : ∃ W, w.alloc (.cells (stpC s) 26) = W := ⟨_, rfl⟩
  have bW : Below w.heap.size w W := by rw [← hW]; exact (Below.refl _ _).alloc (Nat.le_refl _) _
  have BS : Blk W w.heap.size 26 (stpC s) := by rw [← hW]; exact Blk.new _ _ _
  have HT := Lib.hid (hT.below bW)
  have s0 : W.cell? ⟨w.heap.size, 0, none⟩ = some (.int .i64 s.kind) := BS.cell 0
  have s1 : W.cell? ⟨w.heap.size, 1, none⟩ = some (.int .i64 s.n) := BS.cell 1
  have s2 : W.cell? ⟨w.heap.size, 2, none⟩ = some (.int .i64 s.ticks) := BS.cell 2
  have s3 : W.cell? ⟨w.heap.size, 3, none⟩ = some (.int .i64 s.tab) := BS.cell 3
  have s4 : W.cell? ⟨w.heap.size, 4, none⟩ = some (.int .i64 s.lev) := BS.cell 4
  have s5 : W.cell? ⟨w.heap.size, 5, none⟩ = some (.string s.key) := BS.cell 5
  have s6 : W.cell? ⟨w.heap.size, 6, none⟩ = some (.string s.en) := BS.cell 6
  have s7 : W.cell? ⟨w.heap.size, 7, none⟩ = some (.string s.val) := BS.cell 7
  have s8 : W.cell? ⟨w.heap.size, 8, none⟩ = some (.int .i64 s.ctx) := BS.cell 8
  rw [show ((codeR .c).toNat : Int) = 67 from rfl]
  unfold stpC at hW ⊢
  by_cases h1 : s.ctx < -1
  · have d1 : decide (s.ctx < -1) = true := by simp [h1]
    have F : Hid (tellP s .c = []) := Lib.hid (by unfold tellP; dsimp only; rw [if_pos (.inl h1)])
    rw [F.out]
    go_enter Tryd.func27, Tryd.ntmps27
    go_wp2_with fail
    go_ret
    exact ⟨rfl, bW⟩
  have d1 : decide (s.ctx < -1) = false := by simp; omega
  by_cases h2 : 1125899906842624 ≤ s.ctx
  · have d2 : decide (s.ctx ≥ 1125899906842624) = true := by simp [h2]
    have d3 : decide (s.ctx > 1125899906842623) = true := by simp; omega
    have F : Hid (tellP s .c = []) := Lib.hid (by unfold tellP; dsimp only; rw [if_pos (.inr h2)])
    rw [F.out]
    go_enter Tryd.func27, Tryd.ntmps27
    go_wp2_with fail
    go_ret
    exact ⟨rfl, bW⟩
  have d2 : decide (s.ctx ≥ 1125899906842624) = false := by simp; omega
  have d3 : decide (s.ctx > 1125899906842623) = false := by simp; omega
  have F : Hid (tellP s .c = numW (s.ctx + 1)) := Lib.hid (by unfold tellP; dsimp only; rw [if_neg (by omega)])
  rw [F.out]
  go_enter Tryd.func27, Tryd.ntmps27
  go_wp2_with fail
  clear hW
  refine (ref40_number (s.ctx + 1) W).mono ?_
  rintro e w1 ⟨rfl, rfl⟩
  go_wp2_with fail
  go_ret
  exact ⟨rfl, bW⟩

set_option maxRecDepth 100000 in
set_option maxHeartbeats 2000000 in
theorem step_tell_a (s : Stp) (w : World) (hz : s.key.size ≤ 1000000000 ∧ s.en.size ≤ 1000000000 ∧ s.val.size ≤ 1000000000) (hT : Tabs w) :
    Calls Tryd.prog 25 #[.agg (stpC s), .int .u8 ((codeP .a).toNat : Int)] w fun e w' => e = .returned (.string ⟨(tellP s .a).toArray⟩) ∧ Below w.heap.size w w' := by
  obtain ⟨W, hW⟩ : ∃ W, w.alloc (.cells (stpC s) 26) = W := ⟨_, rfl⟩
  have bW : Below w.heap.size w W := by rw [← hW]; exact (Below.refl _ _).alloc (Nat.le_refl _) _
  have BS : Blk W w.heap.size 26 (stpC s) := by rw [← hW]; exact Blk.new _ _ _
  have HT := Lib.hid (hT.below bW)
  have s0 : W.cell? ⟨w.heap.size, 0, none⟩ = some (.int .i64 s.kind) := BS.cell 0
  have s1 : W.cell? ⟨w.heap.size, 1, none⟩ = some (.int .i64 s.n) := BS.cell 1
  have s2 : W.cell? ⟨w.heap.size, 2, none⟩ = some (.int .i64 s.ticks) := BS.cell 2
  have s3 : W.cell? ⟨w.heap.size, 3, none⟩ = some (.int .i64 s.tab) := BS.cell 3
  have s4 : W.cell? ⟨w.heap.size, 4, none⟩ = some (.int .i64 s.lev) := BS.cell 4
  have s5 : W.cell? ⟨w.heap.size, 5, none⟩ = some (.string s.key) := BS.cell 5
  have s6 : W.cell? ⟨w.heap.size, 6, none⟩ = some (.string s.en) := BS.cell 6
  have s7 : W.cell? ⟨w.heap.size, 7, none⟩ = some (.string s.val) := BS.cell 7
  have s8 : W.cell? ⟨w.heap.size, 8, none⟩ = some (.int .i64 s.ctx) := BS.cell 8
  rw [show ((codeP .a).toNat : Int) = 97 from rfl]
  unfold stpC at hW ⊢
  have bWd : Below w.heap.size w W.drew := below_drewN bW 1
  go_enter Tryd.func25, Tryd.ntmps25
  go_upto_region 12 with fail
  have q0 : ∀ p : Kept (fun _ => True) W.drew, p.v.cell? ⟨w.heap.size, 3, none⟩ = some (.int .i64 s.tab) := fun p => p.h.cell trivial (BS.drew.cell 3)
  clear s0 s1 s2 s3 s4 s5 s6 s7 s8 hW HT
  refine wp_region_mixTk (M := []) (fun _ => True) 4 [1, 2, 0, 3] (by kernel_rfl) (by kernel_rfl) ?_
  iterate 2 (refine mix_calmDk rfl rfl ?_; go_big_quiet_step (fail); refine wpQuiet_nil ?_)
  clear q0
  refine mix_loudDk rfl (by kernel_rfl) rfl ?_
  intro K1 hK1
  have HK := Lib.hid hK1
  clear hK1
  go_wp2_with fail
  refine (step_tables W.drew).mono ?_
  rintro e w1 ⟨rfl, hw1⟩
  have b1 : Below W.drew.heap.size W.drew w1 := by rw [hw1]; exact (Below.refl _ _).alloc (Nat.le_refl _) _
  have BN : NamesAt w1 W.drew.heap.size tabN := by rw [hw1]; exact Blk.new _ _ _
  have HC := Lib.hid (step_word W.drew.heap.size tabN s.tab w1 BN (by decide))
  rw [show tabN.length = 2 from rfl] at HC
  have HB := Lib.hid (bWd.trans (b1.mono bWd.size))
  have HST := Lib.hid (Stand.of_below (S := fun _ => True) b1)
  clear hw1 b1 BN
  go_wp2_with fail
  refine HK.out _ _ HST.out ?_
  clear HK
  refine mix_loudDk rfl (by kernel_rfl) rfl ?_
  intro K1 hK1
  have HK := Lib.hid hK1
  clear hK1
  go_wp2_with fail
  refine HC.out.mono ?_
  rintro e w2 ⟨rfl, rfl⟩
  go_wp2_with fail
  refine HK.out _ _ (Stand.refl _ _) ?_
  clear HK
  refine mix_endDk ?_
  go_wp2_with fail
  go_ret
  exact ⟨rfl, HB.out⟩

set_option maxRecDepth 100000 in
set_option maxHeartbeats 2000000 in
theorem step_tell_l (s : Stp) (w : World) (hz : s.key.size ≤ 1000000000 ∧ s.en.size ≤ 1000000000 ∧ s.val.size ≤ 1000000000) (hT : Tabs w) :
    Calls Tryd.prog 25 #[.agg (stpC s), .int .u8 ((codeP .l).toNat : Int)] w fun e w' => e = .returned (.string ⟨(tellP s .l).toArray⟩) ∧ Below w.heap.size w w' := by
  obtain ⟨W, hW⟩ : ∃ W, w.alloc (.cells (stpC s) 26) = W := ⟨_, rfl⟩
  have bW : Below w.heap.size w W := by rw [← hW]; exact (Below.refl _ _).alloc (Nat.le_refl _) _
  have BS : Blk W w.heap.size 26 (stpC s) := by rw [← hW]; exact Blk.new _ _ _
  have HT := Lib.hid (hT.below bW)
  have s0 : W.cell? ⟨w.heap.size, 0, none⟩ = some (.int .i64 s.kind) := BS.cell 0
  have s1 : W.cell? ⟨w.heap.size, 1, none⟩ = some (.int .i64 s.n) := BS.cell 1
  have s2 : W.cell? ⟨w.heap.size, 2, none⟩ = some (.int .i64 s.ticks) := BS.cell 2
  have s3 : W.cell? ⟨w.heap.size, 3, none⟩ = some (.int .i64 s.tab) := BS.cell 3
  have s4 : W.cell? ⟨w.heap.size, 4, none⟩ = some (.int .i64 s.lev) := BS.cell 4
  have s5 : W.cell? ⟨w.heap.size, 5, none⟩ = some (.string s.key) := BS.cell 5
  have s6 : W.cell? ⟨w.heap.size, 6, none⟩ = some (.string s.en) := BS.cell 6
  have s7 : W.cell? ⟨w.heap.size, 7, none⟩ = some (.string s.val) := BS.cell 7
  have s8 : W.cell? ⟨w.heap.size, 8, none⟩ = some (.int .i64 s.ctx) := BS.cell 8
  rw [show ((codeP .l).toNat : Int) = 108 from rfl]
  unfold stpC at hW ⊢
  have bWd : Below w.heap.size w W.drew := below_drewN bW 1
  go_enter Tryd.func25, Tryd.ntmps25
  go_upto_region 14 with fail
  have q0 : ∀ p : Kept (fun _ => True) W.drew, p.v.cell? ⟨w.heap.size, 4, none⟩ = some (.int .i64 s.lev) := fun p => p.h.cell trivial (BS.drew.cell 4)
  clear s0 s1 s2 s3 s4 s5 s6 s7 s8 hW HT
  refine wp_region_mixTk (M := []) (fun _ => True) 4 [1, 2, 0, 3] (by kernel_rfl) (by kernel_rfl) ?_
  iterate 2 (refine mix_calmDk rfl rfl ?_; go_big_quiet_step (fail); refine wpQuiet_nil ?_)
  clear q0
  refine mix_loudDk rfl (by kernel_rfl) rfl ?_
  intro K1 hK1
  have HK := Lib.hid hK1
  clear hK1
  go_wp2_with fail
  refine (step_levels W.drew).mono ?_
  rintro e w1 ⟨rfl, hw1⟩
  have b1 : Below W.drew.heap.size W.drew w1 := by rw [hw1]; exact (Below.refl _ _).alloc (Nat.le_refl _) _
  have BN : NamesAt w1 W.drew.heap.size levN := by rw [hw1]; exact Blk.new _ _ _
  have HC := Lib.hid (step_word W.drew.heap.size levN s.lev w1 BN (by decide))
  rw [show levN.length = 3 from rfl] at HC
  have HB := Lib.hid (bWd.trans (b1.mono bWd.size))
  have HST := Lib.hid (Stand.of_below (S := fun _ => True) b1)
  clear hw1 b1 BN
  go_wp2_with fail
  refine HK.out _ _ HST.out ?_
  clear HK
  refine mix_loudDk rfl (by kernel_rfl) rfl ?_
  intro K1 hK1
  have HK := Lib.hid hK1
  clear hK1
  go_wp2_with fail
  refine HC.out.mono ?_
  rintro e w2 ⟨rfl, rfl⟩
  go_wp2_with fail
  refine HK.out _ _ (Stand.refl _ _) ?_
  clear HK
  refine mix_endDk ?_
  go_wp2_with fail
  go_ret
  exact ⟨rfl, HB.out⟩

set_option maxRecDepth 100000 in
set_option maxHeartbeats 2000000 in
theorem ref40_part_a (s : Stp) (w : World) (hz : s.key.size ≤ 1000000000 ∧ s.en.size ≤ 1000000000 ∧ s.val.size ≤ 1000000000) (hT : Tabs w) :
    Calls Tryd.prog 27 #[.agg (stpC s), .int .u8 ((codeR .a).toNat : Int)] w fun e w' => e = .returned (.string ⟨(tellP s .a).toArray⟩) ∧ Below w.heap.size w w' := by
  obtain ⟨W, hW⟩ : ∃ W, w.alloc (.cells (stpC s) 26) = W := ⟨_, rfl⟩
  have bW : Below w.heap.size w W := by rw [← hW]; exact (Below.refl _ _).alloc (Nat.le_refl _) _
  have BS : Blk W w.heap.size 26 (stpC s) := by rw [← hW]; exact Blk.new _ _ _
  have HT := Lib.hid (hT.below bW)
  have s0 : W.cell? ⟨w.heap.size, 0, none⟩ = some (.int .i64 s.kind) := BS.cell 0
  have s1 : W.cell? ⟨w.heap.size, 1, none⟩ = some (.int .i64 s.n) := BS.cell 1
  have s2 : W.cell? ⟨w.heap.size, 2, none⟩ = some (.int .i64 s.ticks) := BS.cell 2
  have s3 : W.cell? ⟨w.heap.size, 3, none⟩ = some (.int .i64 s.tab) := BS.cell 3
  have s4 : W.cell? ⟨w.heap.size, 4, none⟩ = some (.int .i64 s.lev) := BS.cell 4
  have s5 : W.cell? ⟨w.heap.size, 5, none⟩ = some (.string s.key) := BS.cell 5
  have s6 : W.cell? ⟨w.heap.size, 6, none⟩ = some (.string s.en) := BS.cell 6
  have s7 : W.cell? ⟨w.heap.size, 7, none⟩ = some (.string s.val) := BS.cell 7
  have s8 : W.cell? ⟨w.heap.size, 8, none⟩ = some (.int .i64 s.ctx) := BS.cell 8
  rw [show ((codeR .a).toNat : Int) = 84 from rfl]
  unfold stpC at hW ⊢
  by_cases h1 : s.tab < 1
  · have d1 : decide (s.tab < 1) = true := by simp [h1]
    have F : Hid (tellP s .a = []) := Lib.hid (by show wordW tabN s.tab = []; unfold wordW; rw [if_neg (by omega)])
    rw [F.out]
    go_enter Tryd.func27, Tryd.ntmps27
    go_wp2_with fail
    go_ret
    exact ⟨rfl, bW⟩
  have d1 : decide (s.tab < 1) = false := by simp; omega
  by_cases h2 : 2 < s.tab
  · have d2 : decide (s.tab > 2) = true := by simp [h2]
    have F : Hid (tellP s .a = []) := Lib.hid (by show wordW tabN s.tab = []; unfold wordW; rw [if_neg (by have : (tabN.length : Int) = 2 := rfl; omega)])
    rw [F.out]
    go_enter Tryd.func27, Tryd.ntmps27
    go_wp2_with fail
    go_ret
    exact ⟨rfl, bW⟩
  have hc : s.tab = 1 ∨ s.tab = 2 := by omega
  obtain ⟨x, hx⟩ : ∃ x, s.tab = x := ⟨_, rfl⟩
  have F : Hid (tellP s .a = wordW tabN x) := Lib.hid (by rw [← hx]; rfl)
  rw [F.out]
  rw [hx] at hc hW s3 ⊢
  clear d1 h1 h2 F hx
  rcases hc with rfl | rfl
  all_goals
    have I1 : ∀ w, (Instr.index 82 (.agg #[.string ⟨#[]⟩, .string ⟨#[108, 97, 115, 116]⟩, .string ⟨#[99, 97, 117, 115, 97, 108]⟩]) (.int .i64 1)).run Tryd.prog w = .ok (.string ⟨#[108, 97, 115, 116]⟩) w := fun w => run_index_cells (P := Tryd.prog) w 82 9 3 _ 1 _ Tryd.underlying82 (fun _ => by kernel_rfl) (fun _ => by kernel_rfl) (by decide) rfl
    have I2 : ∀ w, (Instr.index 82 (.agg #[.string ⟨#[]⟩, .string ⟨#[108, 97, 115, 116]⟩, .string ⟨#[99, 97, 117, 115, 97, 108]⟩]) (.int .i64 2)).run Tryd.prog w = .ok (.string ⟨#[99, 97, 117, 115, 97, 108]⟩) w := fun w => run_index_cells (P := Tryd.prog) w 82 9 3 _ 2 _ Tryd.underlying82 (fun _ => by kernel_rfl) (fun _ => by kernel_rfl) (by decide) rfl
    go_enter Tryd.func27, Tryd.ntmps27
    go_wp2_with fail
    go_ret
    exact ⟨rfl, bW⟩

set_option maxRecDepth 100000 in
set_option maxHeartbeats 2000000 in
theorem ref40_part_l (s : Stp) (w : World) (hz : s.key.size ≤ 1000000000 ∧ s.en.size ≤ 1000000000 ∧ s.val.size ≤ 1000000000) (hT : Tabs w) :
    Calls Tryd.prog 27 #[.agg (stpC s), .int .u8 ((codeR .l).toNat : Int)] w fun e w' => e = .returned (.string ⟨(tellP s .l).toArray⟩) ∧ Below w.heap.size w w' := by
  obtain ⟨W, hW⟩ : ∃ W, w.alloc (.cells (stpC s) 26) = W := ⟨_, rfl⟩
  have bW : Below w.heap.size w W := by rw [← hW]; exact (Below.refl _ _).alloc (Nat.le_refl _) _
  have BS : Blk W w.heap.size 26 (stpC s) := by rw [← hW]; exact Blk.new _ _ _
  have HT := Lib.hid (hT.below bW)
  have s0 : W.cell? ⟨w.heap.size, 0, none⟩ = some (.int .i64 s.kind) := BS.cell 0
  have s1 : W.cell? ⟨w.heap.size, 1, none⟩ = some (.int .i64 s.n) := BS.cell 1
  have s2 : W.cell? ⟨w.heap.size, 2, none⟩ = some (.int .i64 s.ticks) := BS.cell 2
  have s3 : W.cell? ⟨w.heap.size, 3, none⟩ = some (.int .i64 s.tab) := BS.cell 3
  have s4 : W.cell? ⟨w.heap.size, 4, none⟩ = some (.int .i64 s.lev) := BS.cell 4
  have s5 : W.cell? ⟨w.heap.size, 5, none⟩ = some (.string s.key) := BS.cell 5
  have s6 : W.cell? ⟨w.heap.size, 6, none⟩ = some (.string s.en) := BS.cell 6
  have s7 : W.cell? ⟨w.heap.size, 7, none⟩ = some (.string s.val) := BS.cell 7
  have s8 : W.cell? ⟨w.heap.size, 8, none⟩ = some (.int .i64 s.ctx) := BS.cell 8
  rw [show ((codeR .l).toNat : Int) = 76 from rfl]
  unfold stpC at hW ⊢
  by_cases h1 : s.lev < 1
  · have d1 : decide (s.lev < 1) = true := by simp [h1]
    have F : Hid (tellP s .l = []) := Lib.hid (by show wordW levN s.lev = []; unfold wordW; rw [if_neg (by omega)])
    rw [F.out]
    go_enter Tryd.func27, Tryd.ntmps27
    go_wp2_with fail
    go_ret
    exact ⟨rfl, bW⟩
  have d1 : decide (s.lev < 1) = false := by simp; omega
  by_cases h2 : 3 < s.lev
  · have d2 : decide (s.lev > 3) = true := by simp [h2]
    have F : Hid (tellP s .l = []) := Lib.hid (by show wordW levN s.lev = []; unfold wordW; rw [if_neg (by have : (levN.length : Int) = 3 := rfl; omega)])
    rw [F.out]
    go_enter Tryd.func27, Tryd.ntmps27
    go_wp2_with fail
    go_ret
    exact ⟨rfl, bW⟩
  have hc : s.lev = 1 ∨ s.lev = 2 ∨ s.lev = 3 := by omega
  obtain ⟨x, hx⟩ : ∃ x, s.lev = x := ⟨_, rfl⟩
  have F : Hid (tellP s .l = wordW levN x) := Lib.hid (by rw [← hx]; rfl)
  rw [F.out]
  rw [hx] at hc hW s4 ⊢
  clear d1 h1 h2 F hx
  rcases hc with rfl | rfl | rfl
  all_goals
    have I1 : ∀ w, (Instr.index 83 (.agg #[.string ⟨#[]⟩, .string ⟨#[111, 110, 101]⟩, .string ⟨#[113, 117, 111, 114, 117, 109]⟩, .string ⟨#[97, 108, 108]⟩]) (.int .i64 1)).run Tryd.prog w = .ok (.string ⟨#[111, 110, 101]⟩) w := fun w => run_index_cells (P := Tryd.prog) w 83 9 4 _ 1 _ Tryd.underlying83 (fun _ => by kernel_rfl) (fun _ => by kernel_rfl) (by decide) rfl
    have I2 : ∀ w, (Instr.index 83 (.agg #[.string ⟨#[]⟩, .string ⟨#[111, 110, 101]⟩, .string ⟨#[113, 117, 111, 114, 117, 109]⟩, .string ⟨#[97, 108, 108]⟩]) (.int .i64 2)).run Tryd.prog w = .ok (.string ⟨#[113, 117, 111, 114, 117, 109]⟩) w := fun w => run_index_cells (P := Tryd.prog) w 83 9 4 _ 2 _ Tryd.underlying83 (fun _ => by kernel_rfl) (fun _ => by kernel_rfl) (by decide) rfl
    have I3 : ∀ w, (Instr.index 83 (.agg #[.string ⟨#[]⟩, .string ⟨#[111, 110, 101]⟩, .string ⟨#[113, 117, 111, 114, 117, 109]⟩, .string ⟨#[97, 108, 108]⟩]) (.int .i64 3)).run Tryd.prog w = .ok (.string ⟨#[97, 108, 108]⟩) w := fun w => run_index_cells (P := Tryd.prog) w 83 9 4 _ 3 _ Tryd.underlying83 (fun _ => by kernel_rfl) (fun _ => by kernel_rfl) (by decide) rfl
    go_enter Tryd.func27, Tryd.ntmps27
    go_wp2_with fail
    go_ret
    exact ⟨rfl, bW⟩

set_option maxRecDepth 100000 in
set_option maxHeartbeats 2000000 in
theorem step_tell_k (s : Stp) (w : World) (hz : s.key.size ≤ 1000000000 ∧ s.en.size ≤ 1000000000 ∧ s.val.size ≤ 1000000000) (hT : Tabs w) :
    Calls Tryd.prog 25 #[.agg (stpC s), .int .u8 ((codeP .k).toNat : Int)] w fun e w' => e = .returned (.string ⟨(tellP s .k).toArray⟩) ∧ Below w.heap.size w w' := by
  obtain ⟨W, hW⟩ : ∃ W, w.alloc (.cells (stpC s) 26) = W := ⟨_, rfl⟩
  have bW : Below w.heap.size w W := by rw [← hW]; exact (Below.refl _ _).alloc (Nat.le_refl _) _
  have BS : Blk W w.heap.size 26 (stpC s) := by rw [← hW]; exact Blk.new _ _ _
  have HT := Lib.hid (hT.below bW)
  have s0 : W.cell? ⟨w.heap.size, 0, none⟩ = some (.int .i64 s.kind) := BS.cell 0
  have s1 : W.cell? ⟨w.heap.size, 1, none⟩ = some (.int .i64 s.n) := BS.cell 1
  have s2 : W.cell? ⟨w.heap.size, 2, none⟩ = some (.int .i64 s.ticks) := BS.cell 2
  have s3 : W.cell? ⟨w.heap.size, 3, none⟩ = some (.int .i64 s.tab) := BS.cell 3
  have s4 : W.cell? ⟨w.heap.size, 4, none⟩ = some (.int .i64 s.lev) := BS.cell 4
  have s5 : W.cell? ⟨w.heap.size, 5, none⟩ = some (.string s.key) := BS.cell 5
  have s6 : W.cell? ⟨w.heap.size, 6, none⟩ = some (.string s.en) := BS.cell 6
  have s7 : W.cell? ⟨w.heap.size, 7, none⟩ = some (.string s.val) := BS.cell 7
  have s8 : W.cell? ⟨w.heap.size, 8, none⟩ = some (.int .i64 s.ctx) := BS.cell 8
  rw [show ((codeP .k).toNat : Int) = 107 from rfl]
  unfold stpC at hW ⊢
  by_cases h : 64 < s.key.size
  · have F : Hid (textW s.key = []) := Lib.hid (by unfold textW; rw [if_pos h])
    have d1 : decide ((s.key.size : Int) > 64) = true := by simp; omega
    rw [show tellP s .k = textW s.key from rfl, F.out]
    go_enter Tryd.func25, Tryd.ntmps25
    go_wp2_with fail
    go_ret
    exact ⟨rfl, bW⟩
  · have F : Hid (quoteP s.key = textW s.key) := Lib.hid (by unfold textW; rw [if_neg h])
    have d1 : decide ((s.key.size : Int) > 64) = false := by simp; omega
    have C := Lib.hid (runes_Quote s.key (by have := hz.1; have := hz.2.1; have := hz.2.2; omega) W HT.out)
    rw [F.out] at C
    rw [show tellP s .k = textW s.key from rfl]
    clear hT
    go_enter Tryd.func25, Tryd.ntmps25
    go_wp2_with fail
    clear hW
    refine C.out.mono ?_
    rintro e w1 ⟨rfl, b1⟩
    go_wp2_with fail
    go_ret
    exact ⟨rfl, bW.trans (b1.mono bW.size)⟩

set_option maxRecDepth 100000 in
set_option maxHeartbeats 2000000 in
theorem ref40_part_k (s : Stp) (w : World) (hz : s.key.size ≤ 1000000000 ∧ s.en.size ≤ 1000000000 ∧ s.val.size ≤ 1000000000) (hT : Tabs w) :
    Calls Tryd.prog 27 #[.agg (stpC s), .int .u8 ((codeR .k).toNat : Int)] w fun e w' => e = .returned (.string ⟨(tellP s .k).toArray⟩) ∧ Below w.heap.size w w' := by
  obtain ⟨W, hW⟩ : ∃ W, w.alloc (.cells (stpC s) 26) = W := ⟨_, rfl⟩
  have bW : Below w.heap.size w W := by rw [← hW]; exact (Below.refl _ _).alloc (Nat.le_refl _) _
  have BS : Blk W w.heap.size 26 (stpC s) := by rw [← hW]; exact Blk.new _ _ _
  have HT := Lib.hid (hT.below bW)
  have s0 : W.cell? ⟨w.heap.size, 0, none⟩ = some (.int .i64 s.kind) := BS.cell 0
  have s1 : W.cell? ⟨w.heap.size, 1, none⟩ = some (.int .i64 s.n) := BS.cell 1
  have s2 : W.cell? ⟨w.heap.size, 2, none⟩ = some (.int .i64 s.ticks) := BS.cell 2
  have s3 : W.cell? ⟨w.heap.size, 3, none⟩ = some (.int .i64 s.tab) := BS.cell 3
  have s4 : W.cell? ⟨w.heap.size, 4, none⟩ = some (.int .i64 s.lev) := BS.cell 4
  have s5 : W.cell? ⟨w.heap.size, 5, none⟩ = some (.string s.key) := BS.cell 5
  have s6 : W.cell? ⟨w.heap.size, 6, none⟩ = some (.string s.en) := BS.cell 6
  have s7 : W.cell? ⟨w.heap.size, 7, none⟩ = some (.string s.val) := BS.cell 7
  have s8 : W.cell? ⟨w.heap.size, 8, none⟩ = some (.int .i64 s.ctx) := BS.cell 8
  rw [show ((codeR .k).toNat : Int) = 75 from rfl]
  unfold stpC at hW ⊢
  go_enter Tryd.func27, Tryd.ntmps27
  go_wp2_with fail
  clear hW
  refine (ref40_quote s.key W hz.1 HT.out).mono ?_
  rintro e w1 ⟨rfl, b1⟩
  go_wp2_with fail
  go_ret
  exact ⟨rfl, bW.trans (b1.mono bW.size)⟩

set_option maxRecDepth 100000 in
set_option maxHeartbeats 2000000 in
theorem step_tell_e (s : Stp) (w : World) (hz : s.key.size ≤ 1000000000 ∧ s.en.size ≤ 1000000000 ∧ s.val.size ≤ 1000000000) (hT : Tabs w) :
    Calls Tryd.prog 25 #[.agg (stpC s), .int .u8 ((codeP .e).toNat : Int)] w fun e w' => e = .returned (.string ⟨(tellP s .e).toArray⟩) ∧ Below w.heap.size w w' := by
  obtain ⟨W, hW⟩ : ∃ W, w.alloc (.cells (stpC s) 26) = W := ⟨_, rfl⟩
  have bW : Below w.heap.size w W := by rw [← hW]; exact (Below.refl _ _).alloc (Nat.le_refl _) _
  have BS : Blk W w.heap.size 26 (stpC s) := by rw [← hW]; exact Blk.new _ _ _
  have HT := Lib.hid (hT.below bW)
  have s0 : W.cell? ⟨w.heap.size, 0, none⟩ = some (.int .i64 s.kind) := BS.cell 0
  have s1 : W.cell? ⟨w.heap.size, 1, none⟩ = some (.int .i64 s.n) := BS.cell 1
  have s2 : W.cell? ⟨w.heap.size, 2, none⟩ = some (.int .i64 s.ticks) := BS.cell 2
  have s3 : W.cell? ⟨w.heap.size, 3, none⟩ = some (.int .i64 s.tab) := BS.cell 3
  have s4 : W.cell? ⟨w.heap.size, 4, none⟩ = some (.int .i64 s.lev) := BS.cell 4
  have s5 : W.cell? ⟨w.heap.size, 5, none⟩ = some (.string s.key) := BS.cell 5
  have s6 : W.cell? ⟨w.heap.size, 6, none⟩ = some (.string s.en) := BS.cell 6
  have s7 : W.cell? ⟨w.heap.size, 7, none⟩ = some (.string s.val) := BS.cell 7
  have s8 : W.cell? ⟨w.heap.size, 8, none⟩ = some (.int .i64 s.ctx) := BS.cell 8
  rw [show ((codeP .e).toNat : Int) = 101 from rfl]
  unfold stpC at hW ⊢
  by_cases h : 64 < s.en.size
  · have F : Hid (textW s.en = []) := Lib.hid (by unfold textW; rw [if_pos h])
    have d1 : decide ((s.en.size : Int) > 64) = true := by simp; omega
    rw [show tellP s .e = textW s.en from rfl, F.out]
    go_enter Tryd.func25, Tryd.ntmps25
    go_wp2_with fail
    go_ret
    exact ⟨rfl, bW⟩
  · have F : Hid (quoteP s.en = textW s.en) := Lib.hid (by unfold textW; rw [if_neg h])
    have d1 : decide ((s.en.size : Int) > 64) = false := by simp; omega
    have C := Lib.hid (runes_Quote s.en (by have := hz.1; have := hz.2.1; have := hz.2.2; omega) W HT.out)
    rw [F.out] at C
    rw [show tellP s .e = textW s.en from rfl]
    clear hT
    go_enter Tryd.func25, Tryd.ntmps25
    go_wp2_with fail
    clear hW
    refine C.out.mono ?_
    rintro e w1 ⟨rfl, b1⟩
    go_wp2_with fail
    go_ret
    exact ⟨rfl, bW.trans (b1.mono bW.size)⟩

set_option maxRecDepth 100000 in
set_option maxHeartbeats 2000000 in
theorem ref40_part_e (s : Stp) (w : World) (hz : s.key.size ≤ 1000000000 ∧ s.en.size ≤ 1000000000 ∧ s.val.size ≤ 1000000000) (hT : Tabs w) :
    Calls Tryd.prog 27 #[.agg (stpC s), .int .u8 ((codeR .e).toNat : Int)] w fun e w' => e = .returned (.string ⟨(tellP s .e).toArray⟩) ∧ Below w.heap.size w w' := by
  obtain ⟨W, hW⟩ : ∃ W, w.alloc (.cells (stpC s) 26) = W := ⟨_, rfl⟩
  have bW : Below w.heap.size w W := by rw [← hW]; exact (Below.refl _ _).alloc (Nat.le_refl _) _
  have BS : Blk W w.heap.size 26 (stpC s) := by rw [← hW]; exact Blk.new _ _ _
  have HT := Lib.hid (hT.below bW)
  have s0 : W.cell? ⟨w.heap.size, 0, none⟩ = some (.int .i64 s.kind) := BS.cell 0
  have s1 : W.cell? ⟨w.heap.size, 1, none⟩ = some (.int .i64 s.n) := BS.cell 1
  have s2 : W.cell? ⟨w.heap.size, 2, none⟩ = some (.int .i64 s.ticks) := BS.cell 2
  have s3 : W.cell? ⟨w.heap.size, 3, none⟩ = some (.int .i64 s.tab) := BS.cell 3
  have s4 : W.cell? ⟨w.heap.size, 4, none⟩ = some (.int .i64 s.lev) := BS.cell 4
  have s5 : W.cell? ⟨w.heap.size, 5, none⟩ = some (.string s.key) := BS.cell 5
  have s6 : W.cell? ⟨w.heap.size, 6, none⟩ = some (.string s.en) := BS.cell 6
  have s7 : W.cell? ⟨w.heap.size, 7, none⟩ = some (.string s.val) := BS.cell 7
  have s8 : W.cell? ⟨w.heap.size, 8, none⟩ = some (.int .i64 s.ctx) := BS.cell 8
  rw [show ((codeR .e).toNat : Int) = 69 from rfl]
  unfold stpC at hW ⊢
  go_enter Tryd.func27, Tryd.ntmps27
  go_wp2_with fail
  clear hW
  refine (ref40_quote s.en W hz.2.1 HT.out).mono ?_
  rintro e w1 ⟨rfl, b1⟩
  go_wp2_with fail
  go_ret
  exact ⟨rfl, bW.trans (b1.mono bW.size)⟩

set_option maxRecDepth 100000 in
set_option maxHeartbeats 2000000 in
theorem step_tell_v (s : Stp) (w : World) (hz : s.key.size ≤ 1000000000 ∧ s.en.size ≤ 1000000000 ∧ s.val.size ≤ 1000000000) (hT : Tabs w) :
    Calls Tryd.prog 25 #[.agg (stpC s), .int .u8 ((codeP .v).toNat : Int)] w fun e w' => e = .returned (.string ⟨(tellP s .v).toArray⟩) ∧ Below w.heap.size w w' := by
  obtain ⟨W, hW⟩ : ∃ W, w.alloc (.cells (stpC s) 26) = W := ⟨_, rfl⟩
  have bW : Below w.heap.size w W := by rw [← hW]; exact (Below.refl _ _).alloc (Nat.le_refl _) _
  have BS : Blk W w.heap.size 26 (stpC s) := by rw [← hW]; exact Blk.new _ _ _
  have HT := Lib.hid (hT.below bW)
  have s0 : W.cell? ⟨w.heap.size, 0, none⟩ = some (.int .i64 s.kind) := BS.cell 0
  have s1 : W.cell? ⟨w.heap.size, 1, none⟩ = some (.int .i64 s.n) := BS.cell 1
  have s2 : W.cell? ⟨w.heap.size, 2, none⟩ = some (.int .i64 s.ticks) := BS.cell 2
  have s3 : W.cell? ⟨w.heap.size, 3, none⟩ = some (.int .i64 s.tab) := BS.cell 3
  have s4 : W.cell? ⟨w.heap.size, 4, none⟩ = some (.int .i64 s.lev) := BS.cell 4
  have s5 : W.cell? ⟨w.heap.size, 5, none⟩ = some (.string s.key) := BS.cell 5
  have s6 : W.cell? ⟨w.heap.size, 6, none⟩ = some (.string s.en) := BS.cell 6
  have s7 : W.cell? ⟨w.heap.size, 7, none⟩ = some (.string s.val) := BS.cell 7
  have s8 : W.cell? ⟨w.heap.size, 8, none⟩ = some (.int .i64 s.ctx) := BS.cell 8
  rw [show ((codeP .v).toNat : Int) = 118 from rfl]
  unfold stpC at hW ⊢
  by_cases h : 64 < s.val.size
  · have F : Hid (textW s.val = []) := Lib.hid (by unfold textW; rw [if_pos h])
    have d1 : decide ((s.val.size : Int) > 64) = true := by simp; omega
    rw [show tellP s .v = textW s.val from rfl, F.out]
    go_enter Tryd.func25, Tryd.ntmps25
    go_wp2_with fail
    go_ret
    exact ⟨rfl, bW⟩
  · have F : Hid (quoteP s.val = textW s.val) := Lib.hid (by unfold textW; rw [if_neg h])
    have d1 : decide ((s.val.size : Int) > 64) = false := by simp; omega
    have C := Lib.hid (runes_Quote s.val (by have := hz.1; have := hz.2.1; have := hz.2.2; omega) W HT.out)
    rw [F.out] at C
    rw [show tellP s .v = textW s.val from rfl]
    clear hT
    go_enter Tryd.func25, Tryd.ntmps25
    go_wp2_with fail
    clear hW
    refine C.out.mono ?_
    rintro e w1 ⟨rfl, b1⟩
    go_wp2_with fail
    go_ret
    exact ⟨rfl, bW.trans (b1.mono bW.size)⟩

set_option maxRecDepth 100000 in
set_option maxHeartbeats 2000000 in
theorem ref40_part_v (s : Stp) (w : World) (hz : s.key.size ≤ 1000000000 ∧ s.en.size ≤ 1000000000 ∧ s.val.size ≤ 1000000000) (hT : Tabs w) :
    Calls Tryd.prog 27 #[.agg (stpC s), .int .u8 ((codeR .v).toNat : Int)] w fun e w' => e = .returned (.string ⟨(tellP s .v).toArray⟩) ∧ Below w.heap.size w w' := by
  obtain ⟨W, hW⟩ : ∃ W, w.alloc (.cells (stpC s) 26) = W := ⟨_, rfl⟩
  have bW : Below w.heap.size w W := by rw [← hW]; exact (Below.refl _ _).alloc (Nat.le_refl _) _
  have BS : Blk W w.heap.size 26 (stpC s) := by rw [← hW]; exact Blk.new _ _ _
  have HT := Lib.hid (hT.below bW)
  have s0 : W.cell? ⟨w.heap.size, 0, none⟩ = some (.int .i64 s.kind) := BS.cell 0
  have s1 : W.cell? ⟨w.heap.size, 1, none⟩ = some (.int .i64 s.n) := BS.cell 1
  have s2 : W.cell? ⟨w.heap.size, 2, none⟩ = some (.int .i64 s.ticks) := BS.cell 2
  have s3 : W.cell? ⟨w.heap.size, 3, none⟩ = some (.int .i64 s.tab) := BS.cell 3
  have s4 : W.cell? ⟨w.heap.size, 4, none⟩ = some (.int .i64 s.lev) := BS.cell 4
  have s5 : W.cell? ⟨w.heap.size, 5, none⟩ = some (.string s.key) := BS.cell 5
  have s6 : W.cell? ⟨w.heap.size, 6, none⟩ = some (.string s.en) := BS.cell 6
  have s7 : W.cell? ⟨w.heap.size, 7, none⟩ = some (.string s.val) := BS.cell 7
  have s8 : W.cell? ⟨w.heap.size, 8, none⟩ = some (.int .i64 s.ctx) := BS.cell 8
  rw [show ((codeR .v).toNat : Int) = 86 from rfl]
  unfold stpC at hW ⊢
  go_enter Tryd.func27, Tryd.ntmps27
  go_wp2_with fail
  clear hW
  refine (ref40_quote s.val W hz.2.2 HT.out).mono ?_
  rintro e w1 ⟨rfl, b1⟩
  go_wp2_with fail
  go_ret
  exact ⟨rfl, bW.trans (b1.mono bW.size)⟩

theorem step_tell (s : Stp) (p : Pt) (w : World) (hz : s.key.size ≤ 1000000000 ∧ s.en.size ≤ 1000000000 ∧ s.val.size ≤ 1000000000) (hT : Tabs w) :
    Calls Tryd.prog 25 #[.agg (stpC s), .int .u8 ((codeP p).toNat : Int)] w fun e w' => e = .returned (.string ⟨(tellP s p).toArray⟩) ∧ Below w.heap.size w w' := by
  cases p
  · exact step_tell_n s w hz hT
  · exact step_tell_t s w hz hT
  · exact step_tell_c s w hz hT
  · exact step_tell_a s w hz hT
  · exact step_tell_l s w hz hT
  · exact step_tell_k s w hz hT
  · exact step_tell_e s w hz hT
  · exact step_tell_v s w hz hT

theorem ref40_part (s : Stp) (p : Pt) (w : World) (hz : s.key.size ≤ 1000000000 ∧ s.en.size ≤ 1000000000 ∧ s.val.size ≤ 1000000000) (hT : Tabs w) :
    Calls Tryd.prog 27 #[.agg (stpC s), .int .u8 ((codeR p).toNat : Int)] w fun e w' => e = .returned (.string ⟨(tellP s p).toArray⟩) ∧ Below w.heap.size w w' := by
  cases p
  · exact ref40_part_n s w hz hT
  · exact ref40_part_t s w hz hT
  · exact ref40_part_c s w hz hT
  · exact ref40_part_a s w hz hT
  · exact ref40_part_l s w hz hT
  · exact ref40_part_k s w hz hT
  · exact ref40_part_e s w hz hT
  · exact ref40_part_v s w hz hT

end Go.Proofs.YtimmfcbpdnlfjaaDoor
