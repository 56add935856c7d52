/- Contract of step.Read. -/
import Derived.Test.YtimmfcbpdnlfjaaDoorStpI
import Derived.Test.YtimmfcbpdnlfjaaDoorMixN
import Derived.BigGuard
namespace Go.Proofs.YtimmfcbpdnlfjaaDoor
open Go.RowKit Go.Sort
set_option linter.unusedVariables false
set_option linter.unusedSimpArgs false

def stpZ : Stp := { bareK 0 with ctx := 0 }
def readV (l : List UInt8) : Value := match readP l with | some s => .tuple #[.agg (stpC s), .int .i64 0] | none => .tuple #[.agg (stpC stpZ), .int .i64 320]
/-- The kind found among the first j. -/
def kTo (K : Int) (j : Nat) : Int := if K ≤ j then K else 0
theorem kTo_zero {K : Int} (h : K = 0 ∨ (1 ≤ K ∧ K ≤ 17)) : kTo K 0 = 0 := by
  unfold kTo
  split <;> omega
theorem kTo_all {K : Int} (h : K = 0 ∨ (1 ≤ K ∧ K ≤ 17)) : kTo K 17 = K := by
  unfold kTo
  rw [if_pos (by omega)]
theorem kTo_hit {K : Int} {j : Nat} (h : K = (j : Int) + 1) : kTo K (j + 1) = (j : Int) + 1 := by
  unfold kTo
  rw [if_pos (by omega), h]
theorem kTo_miss {K : Int} {j : Nat} (h : K ≠ (j : Int) + 1) : kTo K (j + 1) = kTo K j := by
  unfold kTo
  by_cases h1 : K ≤ j
  · rw [if_pos h1, if_pos (by omega)]
  · rw [if_neg h1, if_neg (by omega)]
theorem wordsF_len : ∀ (f : Nat) (l y : List UInt8), y ∈ wordsF f l → y.length ≤ l.length
  | 0, l, y, h => by simp [wordsF] at h
  | f + 1, [], y, h => by simp [wordsF] at h
  | f + 1, c :: r, y, h => by
    rw [wordsF_cons] at h
    split at h
    · have := wordsF_len f r y h
      rw [List.length_cons]
      omega
    · rcases List.mem_cons.1 h with rfl | h
      · rw [List.length_take]; omega
      · have := wordsF_len f _ y h
        rw [List.length_drop] at this
        omega
theorem wordsP_len {l y : List UInt8} (h : y ∈ wordsP l) : y.length ≤ l.length := wordsF_len _ _ _ h
theorem words_eq (a b : List UInt8) : ((⟨a.toArray⟩ : ByteArray).toList == (⟨b.toArray⟩ : ByteArray).toList) = (a == b) := by
  rw [Go.ByteArray.toList_eq, Go.ByteArray.toList_eq]
theorem readP_nil {l : List UInt8} (h : wordsP l = []) : readP l = none := by unfold readP; rw [h]
theorem readP_long {l : List UInt8} (h : 800 < l.length) : readP l = none := by
  unfold readP
  split
  · rfl
  · rw [if_pos h]
theorem readP_kind {l x : List UInt8} {xs : List (List UInt8)} (h : wordsP l = x :: xs) (h0 : kindP x = 0) : readP l = none := by
  unfold readP
  rw [h]
  simp only [h0, if_true, ite_self]
theorem readP_parts {l x : List UInt8} {xs : List (List UInt8)} (h : wordsP l = x :: xs) (h0 : xs.length ≠ (formP (kindP x)).2.length) : readP l = none := by
  unfold readP
  rw [h]
  simp only [ne_eq, h0, not_false_eq_true, if_true, ite_self]
theorem readP_go {l x : List UInt8} {xs : List (List UInt8)} (h : wordsP l = x :: xs) (h1 : ¬ 800 < l.length) (h2 : kindP x ≠ 0) (h3 : xs.length = (formP (kindP x)).2.length) : readP l = takesP (bareK (kindP x)) (formP (kindP x)).2 xs := by
  unfold readP
  rw [h]
  simp only [h1, h2, h3, if_false, ne_eq, not_true_eq_false]
theorem takesP_take {s : Stp} {ps : List Pt} {xs : List (List UInt8)} {k : Nat} {s1 : Stp} (hl : ps.length = xs.length) (hk : k < ps.length) (hk2 : k < xs.length) (h : takesP s (ps.take k) (xs.take k) = some s1) :
    takesP s (ps.take (k + 1)) (xs.take (k + 1)) = if (takeP s1 ⟨xs[k].toArray⟩ ps[k]).2 = true then some (takeP s1 ⟨xs[k].toArray⟩ ps[k]).1 else none := by
  rw [List.take_succ_eq_append_getElem hk, List.take_succ_eq_append_getElem hk2, takesP_snoc _ _ _ _ _ (by rw [List.length_take, List.length_take]; omega), h, Option.bind_some]
theorem takesP_none : ∀ (ps : List Pt) (xs : List (List UInt8)) (s : Stp) (k : Nat), takesP s (ps.take k) (xs.take k) = none → takesP s ps xs = none
  | [], xs, s, k, h => by simp [takesP] at h
  | p :: ps, [], s, k, h => by cases k <;> simp [takesP] at h
  | p :: ps, x :: xs, s, 0, h => by simp [takesP] at h
  | p :: ps, x :: xs, s, k + 1, h => by
    rw [List.take_succ_cons, List.take_succ_cons] at h
    unfold takesP at h ⊢
    split at h
    · rename_i hp
      rw [if_pos hp]
      exact takesP_none ps xs _ k h
    · rename_i hp
      rw [if_neg hp]

set_option maxRecDepth 100000 in
set_option maxHeartbeats 4000000 in
theorem step_Read (x : ByteArray) (w : World) (hx : x.size ≤ 1000000000) (hT : Tabs w) :
    Calls Tryd.prog 7 #[.string x] w fun e w' => e = .returned (readV (bl x)) ∧ Below w.heap.size w w' := by
  obtain ⟨W, hW⟩ : ∃ W, w.alloc (.cells #[.int .i64 0, .int .i64 0, .int .i64 0, .int .i64 0, .int .i64 0, .string ⟨#[]⟩, .string ⟨#[]⟩, .string ⟨#[]⟩, .int .i64 0] 26) = W := ⟨_, rfl⟩
  have bW : Below w.heap.size w W := by rw [← hW]; exact (Below.refl _ _).alloc (Nat.le_refl _) _
  have BZ : Blk W w.heap.size 26 #[.int .i64 0, .int .i64 0, .int .i64 0, .int .i64 0, .int .i64 0, .string ⟨#[]⟩, .string ⟨#[]⟩, .string ⟨#[]⟩, .int .i64 0] := by rw [← hW]; exact Blk.new _ _ _
  have HT := Lib.hid (hT.below bW)
  clear hT
  have CF := fun (k : Int) (w : World) => step_form k w
  have CW := Lib.hid (runes_Words x hx W)
  have HW := Lib.hid hW
  clear hW
  obtain ⟨L, hL⟩ : ∃ L, bl x = L := ⟨_, rfl⟩
  have hxl : L.length = x.size := by rw [← hL]; exact bl_length x
  have hxl2 : ∀ n : Nat, (n < L.length ↔ n < x.size) := fun n => by rw [hxl]
  rw [hL] at CW
  have HLx := Lib.hid hL
  rw [hL]
  clear hL hxl
  obtain ⟨Ws, hWs⟩ : ∃ Ws, wordsP L = Ws := ⟨_, rfl⟩
  rw [hWs] at CW
  have HWS := Lib.hid hWs
  clear hWs
  go_enter Tryd.func7, Tryd.ntmps7
  go_upto_region 1 with fail
  rw [HW.out]
  clear HW
  go_wp2_with fail
  refine CW.out.mono ?_
  clear CW
  rintro e w1 ⟨v', rfl, o1, b1⟩
  obtain ⟨A, c, hv, hcn, hA0, hr⟩ := o1.reads
  subst hv
  replace BZ := BZ.below b1 BZ.lt
  replace HT := Lib.hid (HT.out.below b1)
  replace bW := bW.trans (b1.mono bW.size)
  clear b1 o1 hA0 hcn
  obtain ⟨n, hn⟩ : ∃ n, Ws.length = n := ⟨_, rfl⟩
  rw [hn] at hr ⊢
  have HN := Lib.hid hn
  have HR := Lib.hid hr
  clear hn hr
  by_cases hn0 : n = 0
  · subst hn0
    have FN := Lib.hid (readP_nil (l := L) (by rw [HWS.out]; exact List.eq_nil_of_length_eq_zero HN.out))
    have z0 : w1.cell? ⟨w.heap.size, 0, none⟩ = some (.int .i64 0) := BZ.cell 0
    have zf0 := BZ.frozen 0
    have z1 : w1.cell? ⟨w.heap.size, 1, none⟩ = some (.int .i64 0) := BZ.cell 1
    have zf1 := BZ.frozen 1
    have z2 : w1.cell? ⟨w.heap.size, 2, none⟩ = some (.int .i64 0) := BZ.cell 2
    have zf2 := BZ.frozen 2
    have z3 : w1.cell? ⟨w.heap.size, 3, none⟩ = some (.int .i64 0) := BZ.cell 3
    have zf3 := BZ.frozen 3
    have z4 : w1.cell? ⟨w.heap.size, 4, none⟩ = some (.int .i64 0) := BZ.cell 4
    have zf4 := BZ.frozen 4
    have z5 : w1.cell? ⟨w.heap.size, 5, none⟩ = some (.string ⟨#[]⟩) := BZ.cell 5
    have zf5 := BZ.frozen 5
    have z6 : w1.cell? ⟨w.heap.size, 6, none⟩ = some (.string ⟨#[]⟩) := BZ.cell 6
    have zf6 := BZ.frozen 6
    have z7 : w1.cell? ⟨w.heap.size, 7, none⟩ = some (.string ⟨#[]⟩) := BZ.cell 7
    have zf7 := BZ.frozen 7
    have z8 : w1.cell? ⟨w.heap.size, 8, none⟩ = some (.int .i64 0) := BZ.cell 8
    have zf8 := BZ.frozen 8
    go_wp2_with fail
    have zz := ((((((((((BZ.set_ 0 (.int .i64 0)).set_ 1 (.int .i64 0)).set_ 2 (.int .i64 0)).set_ 3 (.int .i64 0)).set_ 4 (.int .i64 0)).set_ 5 (.string ⟨#[]⟩)).set_ 6 (.string ⟨#[]⟩)).set_ 7 (.string ⟨#[]⟩)).set_ 8 (.int .i64 0))).cell
    replace bW := bW.setCell (p := ⟨w.heap.size, 0, none⟩) (by show w.heap.size ≤ w.heap.size; omega) (.int .i64 0)
    replace bW := bW.setCell (p := ⟨w.heap.size, 1, none⟩) (by show w.heap.size ≤ w.heap.size; omega) (.int .i64 0)
    replace bW := bW.setCell (p := ⟨w.heap.size, 2, none⟩) (by show w.heap.size ≤ w.heap.size; omega) (.int .i64 0)
    replace bW := bW.setCell (p := ⟨w.heap.size, 3, none⟩) (by show w.heap.size ≤ w.heap.size; omega) (.int .i64 0)
    replace bW := bW.setCell (p := ⟨w.heap.size, 4, none⟩) (by show w.heap.size ≤ w.heap.size; omega) (.int .i64 0)
    replace bW := bW.setCell (p := ⟨w.heap.size, 5, none⟩) (by show w.heap.size ≤ w.heap.size; omega) (.string ⟨#[]⟩)
    replace bW := bW.setCell (p := ⟨w.heap.size, 6, none⟩) (by show w.heap.size ≤ w.heap.size; omega) (.string ⟨#[]⟩)
    replace bW := bW.setCell (p := ⟨w.heap.size, 7, none⟩) (by show w.heap.size ≤ w.heap.size; omega) (.string ⟨#[]⟩)
    replace bW := bW.setCell (p := ⟨w.heap.size, 8, none⟩) (by show w.heap.size ≤ w.heap.size; omega) (.int .i64 0)
    exact bodyPost_ret (v := .tuple #[.agg #[.int .i64 0, .int .i64 0, .int .i64 0, .int .i64 0, .int .i64 0, .string ⟨#[]⟩, .string ⟨#[]⟩, .string ⟨#[]⟩, .int .i64 0], .int .i64 320]) (by simp [results, Tryd.results7, go_sem, zz]) rfl ⟨(by unfold readV; rw [FN.out]; rfl), bW⟩

  have hn1 : 0 < n := by omega
  have hnd : ((n : Int) == 0) = false := by simp; omega
  by_cases hlong : 800 < x.size
  · have hld : decide ((x.size : Int) > 800) = true := by simp; omega
    have FN := Lib.hid (readP_long (l := L) ((hxl2 800).2 hlong))
    have z0 : w1.cell? ⟨w.heap.size, 0, none⟩ = some (.int .i64 0) := BZ.cell 0
    have zf0 := BZ.frozen 0
    have z1 : w1.cell? ⟨w.heap.size, 1, none⟩ = some (.int .i64 0) := BZ.cell 1
    have zf1 := BZ.frozen 1
    have z2 : w1.cell? ⟨w.heap.size, 2, none⟩ = some (.int .i64 0) := BZ.cell 2
    have zf2 := BZ.frozen 2
    have z3 : w1.cell? ⟨w.heap.size, 3, none⟩ = some (.int .i64 0) := BZ.cell 3
    have zf3 := BZ.frozen 3
    have z4 : w1.cell? ⟨w.heap.size, 4, none⟩ = some (.int .i64 0) := BZ.cell 4
    have zf4 := BZ.frozen 4
    have z5 : w1.cell? ⟨w.heap.size, 5, none⟩ = some (.string ⟨#[]⟩) := BZ.cell 5
    have zf5 := BZ.frozen 5
    have z6 : w1.cell? ⟨w.heap.size, 6, none⟩ = some (.string ⟨#[]⟩) := BZ.cell 6
    have zf6 := BZ.frozen 6
    have z7 : w1.cell? ⟨w.heap.size, 7, none⟩ = some (.string ⟨#[]⟩) := BZ.cell 7
    have zf7 := BZ.frozen 7
    have z8 : w1.cell? ⟨w.heap.size, 8, none⟩ = some (.int .i64 0) := BZ.cell 8
    have zf8 := BZ.frozen 8
    go_wp2_with fail
    have zz := ((((((((((BZ.set_ 0 (.int .i64 0)).set_ 1 (.int .i64 0)).set_ 2 (.int .i64 0)).set_ 3 (.int .i64 0)).set_ 4 (.int .i64 0)).set_ 5 (.string ⟨#[]⟩)).set_ 6 (.string ⟨#[]⟩)).set_ 7 (.string ⟨#[]⟩)).set_ 8 (.int .i64 0))).cell
    replace bW := bW.setCell (p := ⟨w.heap.size, 0, none⟩) (by show w.heap.size ≤ w.heap.size; omega) (.int .i64 0)
    replace bW := bW.setCell (p := ⟨w.heap.size, 1, none⟩) (by show w.heap.size ≤ w.heap.size; omega) (.int .i64 0)
    replace bW := bW.setCell (p := ⟨w.heap.size, 2, none⟩) (by show w.heap.size ≤ w.heap.size; omega) (.int .i64 0)
    replace bW := bW.setCell (p := ⟨w.heap.size, 3, none⟩) (by show w.heap.size ≤ w.heap.size; omega) (.int .i64 0)
    replace bW := bW.setCell (p := ⟨w.heap.size, 4, none⟩) (by show w.heap.size ≤ w.heap.size; omega) (.int .i64 0)
    replace bW := bW.setCell (p := ⟨w.heap.size, 5, none⟩) (by show w.heap.size ≤ w.heap.size; omega) (.string ⟨#[]⟩)
    replace bW := bW.setCell (p := ⟨w.heap.size, 6, none⟩) (by show w.heap.size ≤ w.heap.size; omega) (.string ⟨#[]⟩)
    replace bW := bW.setCell (p := ⟨w.heap.size, 7, none⟩) (by show w.heap.size ≤ w.heap.size; omega) (.string ⟨#[]⟩)
    replace bW := bW.setCell (p := ⟨w.heap.size, 8, none⟩) (by show w.heap.size ≤ w.heap.size; omega) (.int .i64 0)
    exact bodyPost_ret (v := .tuple #[.agg #[.int .i64 0, .int .i64 0, .int .i64 0, .int .i64 0, .int .i64 0, .string ⟨#[]⟩, .string ⟨#[]⟩, .string ⟨#[]⟩, .int .i64 0], .int .i64 320]) (by simp [results, Tryd.results7, go_sem, zz]) rfl ⟨(by unfold readV; rw [FN.out]; rfl), bW⟩
  have hld : decide ((x.size : Int) > 800) = false := by simp; omega
  obtain ⟨w0, xs, hws⟩ : ∃ w0 xs, Ws = w0 :: xs := by
    cases Ws with
    | nil => have := HN.out; simp at this; omega
    | cons a t => exact ⟨a, t, rfl⟩
  subst hws
  have hxn : xs.length + 1 = n := by have := HN.out; rwa [List.length_cons] at this
  have HXN := Lib.hid hxn
  clear hxn
  obtain ⟨b, off, hA, hbg, hc⟩ := Reads.form HR.out hn1
  subst hA
  have HC := Lib.hid hc
  clear hc
  obtain ⟨K, hK⟩ : ∃ K, kindP w0 = K := ⟨_, rfl⟩
  have hKr : K = 0 ∨ (1 ≤ K ∧ K ≤ 17) := by rw [← hK]; exact kindP_range w0
  have HKf : ∀ j : Nat, j < 17 → ((formP ((j : Int) + 1)).1 = w0 ↔ K = (j : Int) + 1) := fun j hj => by rw [← hK]; exact kind_form _ (by omega) w0
  have HKK := Lib.hid hK
  clear hK
  have hlenL : ¬ 800 < L.length := fun h => hlong ((hxl2 800).1 h)
  have hys : ∀ y ∈ w0 :: xs, y.length ≤ 800 := fun y hy => by have := wordsP_len (l := L) (y := y) (by rw [HWS.out]; exact hy); omega
  obtain ⟨z, hz⟩ : ∃ z : ByteArray, (⟨w0.toArray⟩ : ByteArray) = z := ⟨_, rfl⟩
  have hz0 : ∀ w' : World, Below w1.heap.size w1 w' → w'.cell? ⟨b, off, none⟩ = some (.string z) := fun w' hb => by
    have := HC.out 0 (sv w0) (by simp)
    rw [Nat.add_zero] at this
    unfold sv at this
    rw [hz] at this
    rw [← this]
    exact hb.cell (p := ⟨b, off, none⟩) hbg
  have HZ := Lib.hid hz
  clear hz
  have HHY := Lib.hid hys
  have HHK := Lib.hid HKf
  have HZ0 := Lib.hid hz0
  have HBD := Lib.hid hld
  clear hys HKf hz0 hxl2
  go_upto_region 6 with fail
  have bw1 := BZ.lt
  have b2 : Below w1.heap.size w1 (w1.alloc (.cells (stpC (bareK 0)) 26)) := (Below.refl _ _).alloc (Nat.le_refl _) _
  have BK : Blk (w1.alloc (.cells (stpC (bareK 0)) 26)) w1.heap.size 26 (stpC (bareK 0)) := Blk.new _ _ _
  have hW2 : w1.alloc (.cells #[.int .i64 0, .int .i64 0, .int .i64 0, .int .i64 0, .int .i64 0, .string ⟨#[]⟩, .string ⟨#[]⟩, .string ⟨#[]⟩, .int .i64 (-1)] 26) = w1.alloc (.cells (stpC (bareK 0)) 26) := rfl
  rw [hW2]
  clear hW2
  generalize w1.alloc (.cells (stpC (bareK 0)) 26) = W2 at *
  have HF0 := Lib.hid (kTo_zero hKr)
  have HBK := Lib.hid BK
  clear BK
  go_wp2_with fail
  go_loopw [6, 7, 8, 9] (fun v6 v7 _ _ wr => ∃ j : Nat, v6 = .string ⟨((formP (kTo K j)).2.map codeP).toArray⟩ ∧ v7 = .int .i64 ((j : Int) + 1) ∧ j ≤ 17 ∧ Blk wr w1.heap.size 26 (stpC (bareK (kTo K j))) ∧ Below w1.heap.size w1 wr) (fun _ v7 _ _ _ => 18 - (RowKit.intOf v7).toNat)
  case atStart => exact ⟨0, by rw [HF0.out]; rfl, rfl, Nat.zero_le _, by rw [HF0.out]; exact HBK.out, b2⟩
  case round =>
    obtain ⟨j, rfl, rfl, hj, hB, hb⟩ := hrel
    by_cases hlt : j < 17
    · have hle : decide ((j : Int) + 1 ≤ 17) = true := by simp; omega
      have C1 := Lib.hid (CF ((j : Int) + 1) wr)
      clear CF
      obtain ⟨q, hq⟩ : ∃ q, kTo K j = q := ⟨_, rfl⟩
      have HQ := Lib.hid hq
      rw [hq] at hB ⊢
      clear hq
      obtain ⟨P, hP⟩ : ∃ P : ByteArray, (⟨((formP q).2.map codeP).toArray⟩ : ByteArray) = P := ⟨_, rfl⟩
      obtain ⟨P2, hP2⟩ : ∃ P2 : ByteArray, (⟨((formP ((j : Int) + 1)).2.map codeP).toArray⟩ : ByteArray) = P2 := ⟨_, rfl⟩
      obtain ⟨y, hy⟩ : ∃ y : ByteArray, (⟨(formP ((j : Int) + 1)).1.toArray⟩ : ByteArray) = y := ⟨_, rfl⟩
      rw [hP2, hy] at C1
      rw [hP]
      have HP := Lib.hid hP
      have HP2 := Lib.hid hP2
      have hq1 : (y.toList == z.toList) = ((formP ((j : Int) + 1)).1 == w0) := by rw [← hy, ← HZ.out, words_eq]
      clear hP hP2 hy
      have q0 := HZ0.out wr hb
      by_cases hk : K = (j : Int) + 1
      · have hq2 : (y.toList == z.toList) = true := by rw [hq1, (HHK.out j hlt).2 hk]; exact beq_self_eq_true _
        have F := Lib.hid (kTo_hit hk)
        clear hq1 hk
        have c0 := some_cell (hB.cell 0) (v := .int .i64 q) rfl
        have f0 := hB.frozen 0
        go_wp2_with fail
        refine C1.out.mono ?_
        clear C1
        rintro e w' ⟨rfl, rfl⟩
        go_wp2_with fail
        go_roundw
        case rel => exact ⟨j + 1, by rw [F.out, HP2.out], by go_num, by omega, by rw [F.out]; exact hB.set_ 0 (.int .i64 ((j : Int) + 1)), hb.setCell (p := ⟨w1.heap.size, 0, none⟩) (Nat.le_refl _) _⟩
        case measure => simp [RowKit.intOf]; omega
      · have hq2 : (y.toList == z.toList) = false := by rw [hq1, beq_eq_false_iff_ne]; exact fun h => hk ((HHK.out j hlt).1 h)
        have F := Lib.hid (kTo_miss hk)
        clear hq1 hk
        go_wp2_with fail
        refine C1.out.mono ?_
        clear C1
        rintro e w' ⟨rfl, rfl⟩
        go_wp2_with fail
        go_roundw
        case rel => exact ⟨j + 1, by rw [F.out, HQ.out, HP.out], by go_num, by omega, by rw [F.out, HQ.out]; exact hB, hb⟩
        case measure => simp [RowKit.intOf]; omega
    · have hj17 : j = 17 := by omega
      subst hj17
      rw [kTo_all hKr] at hB ⊢
      clear hlt hj CF
      rw [show (((17 : Nat) : Int) + 1) = 18 from rfl]
      obtain ⟨wo, hwo⟩ : ∃ wo, wo = wr := ⟨_, rfl⟩
      subst hwo
      have bWo := bW.trans (hb.mono (Nat.le_of_lt bw1))
      have BZo := BZ.below hb bw1
      obtain ⟨ps, hps⟩ : ∃ ps, (formP K).2 = ps := ⟨_, rfl⟩
      rw [hps]
      have HPS := Lib.hid hps
      clear hps
      have hpl : ps.length ≤ 6 := by rw [← HPS.out]; exact formP_len _
      obtain ⟨P, hP⟩ : ∃ P : ByteArray, (⟨(ps.map codeP).toArray⟩ : ByteArray) = P := ⟨_, rfl⟩
      rw [hP]
      have hsz : P.size = ps.length := by rw [← hP]; exact parts_size ps codeP
      have hP6 : P.size ≤ 6 := by omega
      have hat : ∀ (k : Nat) (h : k < ps.length) (w : World), (Instr.index 9 (.string P) (.int .i64 (k : Int))).run Tryd.prog w = .ok (.int .u8 ((codeP ps[k]).toNat : Int)) w := by
        intro k h w
        rw [index_at P k (by omega) w]
        subst hP
        rw [parts_get ps codeP k h]
      have HP := Lib.hid hP
      clear hP
      have c0 := some_cell (hB.cell 0) (v := .int .i64 K) rfl
      by_cases hk0 : K = 0
      · have FN := Lib.hid (readP_kind (l := L) HWS.out (HKK.out.trans hk0))
        have hkq : (K == 0) = true := by rw [hk0]; rfl
        clear hk0 hKr
        have z0 : wo.cell? ⟨w.heap.size, 0, none⟩ = some (.int .i64 0) := BZo.cell 0
        have zf0 := BZo.frozen 0
        have z1 : wo.cell? ⟨w.heap.size, 1, none⟩ = some (.int .i64 0) := BZo.cell 1
        have zf1 := BZo.frozen 1
        have z2 : wo.cell? ⟨w.heap.size, 2, none⟩ = some (.int .i64 0) := BZo.cell 2
        have zf2 := BZo.frozen 2
        have z3 : wo.cell? ⟨w.heap.size, 3, none⟩ = some (.int .i64 0) := BZo.cell 3
        have zf3 := BZo.frozen 3
        have z4 : wo.cell? ⟨w.heap.size, 4, none⟩ = some (.int .i64 0) := BZo.cell 4
        have zf4 := BZo.frozen 4
        have z5 : wo.cell? ⟨w.heap.size, 5, none⟩ = some (.string ⟨#[]⟩) := BZo.cell 5
        have zf5 := BZo.frozen 5
        have z6 : wo.cell? ⟨w.heap.size, 6, none⟩ = some (.string ⟨#[]⟩) := BZo.cell 6
        have zf6 := BZo.frozen 6
        have z7 : wo.cell? ⟨w.heap.size, 7, none⟩ = some (.string ⟨#[]⟩) := BZo.cell 7
        have zf7 := BZo.frozen 7
        have z8 : wo.cell? ⟨w.heap.size, 8, none⟩ = some (.int .i64 0) := BZo.cell 8
        have zf8 := BZo.frozen 8
        clear hat hsz hB hb BZ
        go_wp2_with fail
        have zz := ((((((((((BZo.set_ 0 (.int .i64 0)).set_ 1 (.int .i64 0)).set_ 2 (.int .i64 0)).set_ 3 (.int .i64 0)).set_ 4 (.int .i64 0)).set_ 5 (.string ⟨#[]⟩)).set_ 6 (.string ⟨#[]⟩)).set_ 7 (.string ⟨#[]⟩)).set_ 8 (.int .i64 0))).cell
        replace bWo := bWo.setCell (p := ⟨w.heap.size, 0, none⟩) (by show w.heap.size ≤ w.heap.size; omega) (.int .i64 0)
        replace bWo := bWo.setCell (p := ⟨w.heap.size, 1, none⟩) (by show w.heap.size ≤ w.heap.size; omega) (.int .i64 0)
        replace bWo := bWo.setCell (p := ⟨w.heap.size, 2, none⟩) (by show w.heap.size ≤ w.heap.size; omega) (.int .i64 0)
        replace bWo := bWo.setCell (p := ⟨w.heap.size, 3, none⟩) (by show w.heap.size ≤ w.heap.size; omega) (.int .i64 0)
        replace bWo := bWo.setCell (p := ⟨w.heap.size, 4, none⟩) (by show w.heap.size ≤ w.heap.size; omega) (.int .i64 0)
        replace bWo := bWo.setCell (p := ⟨w.heap.size, 5, none⟩) (by show w.heap.size ≤ w.heap.size; omega) (.string ⟨#[]⟩)
        replace bWo := bWo.setCell (p := ⟨w.heap.size, 6, none⟩) (by show w.heap.size ≤ w.heap.size; omega) (.string ⟨#[]⟩)
        replace bWo := bWo.setCell (p := ⟨w.heap.size, 7, none⟩) (by show w.heap.size ≤ w.heap.size; omega) (.string ⟨#[]⟩)
        replace bWo := bWo.setCell (p := ⟨w.heap.size, 8, none⟩) (by show w.heap.size ≤ w.heap.size; omega) (.int .i64 0)
        exact bodyPost_ret (v := .tuple #[.agg #[.int .i64 0, .int .i64 0, .int .i64 0, .int .i64 0, .int .i64 0, .string ⟨#[]⟩, .string ⟨#[]⟩, .string ⟨#[]⟩, .int .i64 0], .int .i64 320]) (by simp [results, Tryd.results7, go_sem, zz]) rfl ⟨(by unfold readV; rw [FN.out]; rfl), bWo⟩
      have hkq : (K == 0) = false := by rw [beq_eq_false_iff_ne]; exact hk0
      by_cases hpn : n = ps.length + 1
      case neg =>
        have FN := Lib.hid (readP_parts (l := L) HWS.out (by rw [HKK.out, HPS.out]; have := HXN.out; omega))
        have hpq : ((n : Int) != (P.size : Int) + 1) = true := by rw [bne_iff_ne]; omega
        clear hk0 hKr hpn
        have z0 : wo.cell? ⟨w.heap.size, 0, none⟩ = some (.int .i64 0) := BZo.cell 0
        have zf0 := BZo.frozen 0
        have z1 : wo.cell? ⟨w.heap.size, 1, none⟩ = some (.int .i64 0) := BZo.cell 1
        have zf1 := BZo.frozen 1
        have z2 : wo.cell? ⟨w.heap.size, 2, none⟩ = some (.int .i64 0) := BZo.cell 2
        have zf2 := BZo.frozen 2
        have z3 : wo.cell? ⟨w.heap.size, 3, none⟩ = some (.int .i64 0) := BZo.cell 3
        have zf3 := BZo.frozen 3
        have z4 : wo.cell? ⟨w.heap.size, 4, none⟩ = some (.int .i64 0) := BZo.cell 4
        have zf4 := BZo.frozen 4
        have z5 : wo.cell? ⟨w.heap.size, 5, none⟩ = some (.string ⟨#[]⟩) := BZo.cell 5
        have zf5 := BZo.frozen 5
        have z6 : wo.cell? ⟨w.heap.size, 6, none⟩ = some (.string ⟨#[]⟩) := BZo.cell 6
        have zf6 := BZo.frozen 6
        have z7 : wo.cell? ⟨w.heap.size, 7, none⟩ = some (.string ⟨#[]⟩) := BZo.cell 7
        have zf7 := BZo.frozen 7
        have z8 : wo.cell? ⟨w.heap.size, 8, none⟩ = some (.int .i64 0) := BZo.cell 8
        have zf8 := BZo.frozen 8
        clear hat hsz hB hb BZ
        go_wp2_with fail
        have zz := ((((((((((BZo.set_ 0 (.int .i64 0)).set_ 1 (.int .i64 0)).set_ 2 (.int .i64 0)).set_ 3 (.int .i64 0)).set_ 4 (.int .i64 0)).set_ 5 (.string ⟨#[]⟩)).set_ 6 (.string ⟨#[]⟩)).set_ 7 (.string ⟨#[]⟩)).set_ 8 (.int .i64 0))).cell
        replace bWo := bWo.setCell (p := ⟨w.heap.size, 0, none⟩) (by show w.heap.size ≤ w.heap.size; omega) (.int .i64 0)
        replace bWo := bWo.setCell (p := ⟨w.heap.size, 1, none⟩) (by show w.heap.size ≤ w.heap.size; omega) (.int .i64 0)
        replace bWo := bWo.setCell (p := ⟨w.heap.size, 2, none⟩) (by show w.heap.size ≤ w.heap.size; omega) (.int .i64 0)
        replace bWo := bWo.setCell (p := ⟨w.heap.size, 3, none⟩) (by show w.heap.size ≤ w.heap.size; omega) (.int .i64 0)
        replace bWo := bWo.setCell (p := ⟨w.heap.size, 4, none⟩) (by show w.heap.size ≤ w.heap.size; omega) (.int .i64 0)
        replace bWo := bWo.setCell (p := ⟨w.heap.size, 5, none⟩) (by show w.heap.size ≤ w.heap.size; omega) (.string ⟨#[]⟩)
        replace bWo := bWo.setCell (p := ⟨w.heap.size, 6, none⟩) (by show w.heap.size ≤ w.heap.size; omega) (.string ⟨#[]⟩)
        replace bWo := bWo.setCell (p := ⟨w.heap.size, 7, none⟩) (by show w.heap.size ≤ w.heap.size; omega) (.string ⟨#[]⟩)
        replace bWo := bWo.setCell (p := ⟨w.heap.size, 8, none⟩) (by show w.heap.size ≤ w.heap.size; omega) (.int .i64 0)
        exact bodyPost_ret (v := .tuple #[.agg #[.int .i64 0, .int .i64 0, .int .i64 0, .int .i64 0, .int .i64 0, .string ⟨#[]⟩, .string ⟨#[]⟩, .string ⟨#[]⟩, .int .i64 0], .int .i64 320]) (by simp [results, Tryd.results7, go_sem, zz]) rfl ⟨(by unfold readV; rw [FN.out]; rfl), bWo⟩
      obtain ⟨m, hm⟩ : ∃ m, P.size = m := ⟨_, rfl⟩
      have HMP : Hid (ps.length = m) := Lib.hid (by rw [← hsz, hm])
      have hm6 : m ≤ 6 := by rw [← hm]; exact hP6
      have hpq : ((n : Int) != (m : Int) + 1) = false := by rw [bne_eq_false_iff_eq]; omega
      have HK1 := Lib.hid (show 1 ≤ K ∧ K ≤ 17 by omega)
      have HGO := Lib.hid (readP_go (l := L) HWS.out hlenL (by rw [HKK.out]; exact hk0) (by rw [HKK.out, HPS.out]; have := HXN.out; omega))
      rw [HKK.out, HPS.out] at HGO
      have hxp : xs.length = ps.length := by have := HXN.out; omega
      have HXP := Lib.hid hxp
      have HNM := Lib.hid hpn
      clear hpn hk0 hKr hxp hsz hpl hP6
      have hnm : m < n := by have := HNM.out; have := HMP.out; omega
      go_wp2_with fail
      go_loopw [10, 54] (fun _ v54 wr => ∃ (k : Nat) (s : Stp), v54 = .int .i64 k ∧ k ≤ m ∧ takesP (bareK K) (ps.take k) (xs.take k) = some s ∧ Blk wr w1.heap.size 26 (stpC s) ∧ Below w1.heap.size w1 wr) (fun _ v54 _ => m - (RowKit.intOf v54).toNat)
      case atStart => exact ⟨0, _, rfl, Nat.zero_le _, rfl, hB, hb⟩
      case round =>
        obtain ⟨k, s, rfl, hk, hts, hBs, hbs⟩ := hrel
        have HTS := Lib.hid hts
        by_cases hkl : k < m
        · have hkp : k < ps.length := by rw [HMP.out]; exact hkl
          have hkx : k < xs.length := by rw [HXP.out]; exact hkp
          have hx2 := hat k hkp
          clear hat
          obtain ⟨p, hp⟩ : ∃ p, ps[k] = p := ⟨_, rfl⟩
          rw [hp] at hx2
          obtain ⟨y, hy⟩ : ∃ y : ByteArray, (⟨xs[k].toArray⟩ : ByteArray) = y := ⟨_, rfl⟩
          have hysz : y.size ≤ 1000 := by
            have h1 := HHY.out xs[k] (List.mem_cons_of_mem _ (List.getElem_mem hkx))
            have h2 : y.size = (bl y).length := (bl_length y).symm
            rw [h2, ← hy, bl_to]
            omega
          have q1 : ∀ p : Kept (· < w1.heap.size) wr.drew, p.v.cell? ⟨b, off + (k + 1), none⟩ = some (.string y) := fun p => p.h.cell hbg (by
            have := HC.out (k + 1) (sv xs[k]) (by simp [hkx])
            unfold sv at this
            rw [hy] at this
            rw [← this]
            exact hbs.cell (p := ⟨b, off + (k + 1), none⟩) hbg)
          have HTK := Lib.hid (takesP_take (s1 := s) (HXP.out.symm) hkp hkx hts)
          rw [hp, hy] at HTK
          have CT := Lib.hid (step_take s p y w1.heap.size wr.drew hBs.drew (HT.out.below (hbs.drew)) hysz)
          clear hts hp hy hBs c0 hB hb
          go_upto_region 17 with fail
          refine NC.wp_region_mixDk (M := []) (· < w1.heap.size) [0, 1, 2, 3, 4, 5, 6, 7, 8, 9] (by kernel_rfl) (by kernel_rfl) ?_
          iterate 8 (refine NC.mix_calmDk rfl rfl ?_; go_big_quiet_step (fail); refine wpQuiet_nil ?_)
          clear q1 hx2
          refine NC.mix_loudDk rfl (by kernel_rfl) rfl ?_
          intro K1 hK1
          have HK := Lib.hid hK1
          clear hK1
          go_wp2_with fail
          refine CT.out.mono ?_
          clear CT
          rintro e w3 ⟨rfl, hB3, b3⟩
          go_wp2_with fail
          refine HK.out _ _ ⟨b3.os, b3.tape, b3.output, b3.size, fun k _ hs => b3.block k hs⟩ ?_
          clear HK
          obtain ⟨s2, hs2⟩ : ∃ s2, (takeP s y p).1 = s2 := ⟨_, rfl⟩
          obtain ⟨q, hq⟩ : ∃ q, (takeP s y p).2 = q := ⟨_, rfl⟩
          rw [hs2] at hB3 HTK
          rw [hq] at HTK ⊢
          clear hs2 hq
          refine NC.mix_calmDk rfl rfl ?_
          go_big_quiet_step (fail)
          refine wpQuiet_nil ?_
          refine NC.mix_endDk ?_
          have hb3 := hbs.drew.trans b3
          clear b3 hbs
          cases q
          · have FN := Lib.hid (show readP L = none by rw [HGO.out]; exact takesP_none ps xs _ (k + 1) (by rw [HTK.out]; rfl))
            have BZ3 := BZ.below hb3 bw1
            have bW3 := bW.trans (hb3.mono (Nat.le_of_lt bw1))
            have z0 : w3.cell? ⟨w.heap.size, 0, none⟩ = some (.int .i64 0) := BZ3.cell 0
            have zf0 := BZ3.frozen 0
            have z1 : w3.cell? ⟨w.heap.size, 1, none⟩ = some (.int .i64 0) := BZ3.cell 1
            have zf1 := BZ3.frozen 1
            have z2 : w3.cell? ⟨w.heap.size, 2, none⟩ = some (.int .i64 0) := BZ3.cell 2
            have zf2 := BZ3.frozen 2
            have z3 : w3.cell? ⟨w.heap.size, 3, none⟩ = some (.int .i64 0) := BZ3.cell 3
            have zf3 := BZ3.frozen 3
            have z4 : w3.cell? ⟨w.heap.size, 4, none⟩ = some (.int .i64 0) := BZ3.cell 4
            have zf4 := BZ3.frozen 4
            have z5 : w3.cell? ⟨w.heap.size, 5, none⟩ = some (.string ⟨#[]⟩) := BZ3.cell 5
            have zf5 := BZ3.frozen 5
            have z6 : w3.cell? ⟨w.heap.size, 6, none⟩ = some (.string ⟨#[]⟩) := BZ3.cell 6
            have zf6 := BZ3.frozen 6
            have z7 : w3.cell? ⟨w.heap.size, 7, none⟩ = some (.string ⟨#[]⟩) := BZ3.cell 7
            have zf7 := BZ3.frozen 7
            have z8 : w3.cell? ⟨w.heap.size, 8, none⟩ = some (.int .i64 0) := BZ3.cell 8
            have zf8 := BZ3.frozen 8
            clear hB3 hb3 BZ BZo bWo
            go_wp2_with fail
            have zz := ((((((((((BZ3.set_ 0 (.int .i64 0)).set_ 1 (.int .i64 0)).set_ 2 (.int .i64 0)).set_ 3 (.int .i64 0)).set_ 4 (.int .i64 0)).set_ 5 (.string ⟨#[]⟩)).set_ 6 (.string ⟨#[]⟩)).set_ 7 (.string ⟨#[]⟩)).set_ 8 (.int .i64 0))).cell
            replace bW3 := bW3.setCell (p := ⟨w.heap.size, 0, none⟩) (by show w.heap.size ≤ w.heap.size; omega) (.int .i64 0)
            replace bW3 := bW3.setCell (p := ⟨w.heap.size, 1, none⟩) (by show w.heap.size ≤ w.heap.size; omega) (.int .i64 0)
            replace bW3 := bW3.setCell (p := ⟨w.heap.size, 2, none⟩) (by show w.heap.size ≤ w.heap.size; omega) (.int .i64 0)
            replace bW3 := bW3.setCell (p := ⟨w.heap.size, 3, none⟩) (by show w.heap.size ≤ w.heap.size; omega) (.int .i64 0)
            replace bW3 := bW3.setCell (p := ⟨w.heap.size, 4, none⟩) (by show w.heap.size ≤ w.heap.size; omega) (.int .i64 0)
            replace bW3 := bW3.setCell (p := ⟨w.heap.size, 5, none⟩) (by show w.heap.size ≤ w.heap.size; omega) (.string ⟨#[]⟩)
            replace bW3 := bW3.setCell (p := ⟨w.heap.size, 6, none⟩) (by show w.heap.size ≤ w.heap.size; omega) (.string ⟨#[]⟩)
            replace bW3 := bW3.setCell (p := ⟨w.heap.size, 7, none⟩) (by show w.heap.size ≤ w.heap.size; omega) (.string ⟨#[]⟩)
            replace bW3 := bW3.setCell (p := ⟨w.heap.size, 8, none⟩) (by show w.heap.size ≤ w.heap.size; omega) (.int .i64 0)
            exact bodyPost_ret (v := .tuple #[.agg #[.int .i64 0, .int .i64 0, .int .i64 0, .int .i64 0, .int .i64 0, .string ⟨#[]⟩, .string ⟨#[]⟩, .string ⟨#[]⟩, .int .i64 0], .int .i64 320]) (by simp [results, Tryd.results7, go_sem, zz]) rfl ⟨(by unfold readV; rw [FN.out]; rfl), bW3⟩
          · go_wp2_with fail
            go_roundw
            case rel => exact ⟨k + 1, s2, by go_num, hkl, by rw [HTK.out]; rfl, hB3, hb3⟩
            case measure => simp [RowKit.intOf]; omega
        · have hke : k = m := by omega
          subst hke
          have FN := Lib.hid (show readP L = some s by
            rw [HGO.out]
            rw [List.take_of_length_le (by rw [HMP.out]; exact Nat.le_refl _), List.take_of_length_le (by rw [HXP.out, HMP.out]; exact Nat.le_refl _)] at hts
            exact hts)
          have BZ3 := BZ.below hbs bw1
          have bW3 := bW.trans (hbs.mono (Nat.le_of_lt bw1))
          clear hts hkl hk hat c0 hB hb BZ BZo bWo
          have z0 : wr.cell? ⟨w.heap.size, 0, none⟩ = some (.int .i64 0) := BZ3.cell 0
          have zf0 := BZ3.frozen 0
          have z1 : wr.cell? ⟨w.heap.size, 1, none⟩ = some (.int .i64 0) := BZ3.cell 1
          have zf1 := BZ3.frozen 1
          have z2 : wr.cell? ⟨w.heap.size, 2, none⟩ = some (.int .i64 0) := BZ3.cell 2
          have zf2 := BZ3.frozen 2
          have z3 : wr.cell? ⟨w.heap.size, 3, none⟩ = some (.int .i64 0) := BZ3.cell 3
          have zf3 := BZ3.frozen 3
          have z4 : wr.cell? ⟨w.heap.size, 4, none⟩ = some (.int .i64 0) := BZ3.cell 4
          have zf4 := BZ3.frozen 4
          have z5 : wr.cell? ⟨w.heap.size, 5, none⟩ = some (.string ⟨#[]⟩) := BZ3.cell 5
          have zf5 := BZ3.frozen 5
          have z6 : wr.cell? ⟨w.heap.size, 6, none⟩ = some (.string ⟨#[]⟩) := BZ3.cell 6
          have zf6 := BZ3.frozen 6
          have z7 : wr.cell? ⟨w.heap.size, 7, none⟩ = some (.string ⟨#[]⟩) := BZ3.cell 7
          have zf7 := BZ3.frozen 7
          have z8 : wr.cell? ⟨w.heap.size, 8, none⟩ = some (.int .i64 0) := BZ3.cell 8
          have zf8 := BZ3.frozen 8
          have g0 : wr.cell? ⟨w1.heap.size, 0, none⟩ = some (.int .i64 s.kind) := hBs.cell 0
          have g1 : wr.cell? ⟨w1.heap.size, 1, none⟩ = some (.int .i64 s.n) := hBs.cell 1
          have g2 : wr.cell? ⟨w1.heap.size, 2, none⟩ = some (.int .i64 s.ticks) := hBs.cell 2
          have g3 : wr.cell? ⟨w1.heap.size, 3, none⟩ = some (.int .i64 s.tab) := hBs.cell 3
          have g4 : wr.cell? ⟨w1.heap.size, 4, none⟩ = some (.int .i64 s.lev) := hBs.cell 4
          have g5 : wr.cell? ⟨w1.heap.size, 5, none⟩ = some (.string s.key) := hBs.cell 5
          have g6 : wr.cell? ⟨w1.heap.size, 6, none⟩ = some (.string s.en) := hBs.cell 6
          have g7 : wr.cell? ⟨w1.heap.size, 7, none⟩ = some (.string s.val) := hBs.cell 7
          have g8 : wr.cell? ⟨w1.heap.size, 8, none⟩ = some (.int .i64 s.ctx) := hBs.cell 8
          clear hBs hbs
          go_wp2_with fail
          have zz := ((((((((((BZ3.set_ 0 (.int .i64 s.kind)).set_ 1 (.int .i64 s.n)).set_ 2 (.int .i64 s.ticks)).set_ 3 (.int .i64 s.tab)).set_ 4 (.int .i64 s.lev)).set_ 5 (.string s.key)).set_ 6 (.string s.en)).set_ 7 (.string s.val)).set_ 8 (.int .i64 s.ctx))).cell
          replace bW3 := bW3.setCell (p := ⟨w.heap.size, 0, none⟩) (by show w.heap.size ≤ w.heap.size; omega) (.int .i64 s.kind)
          replace bW3 := bW3.setCell (p := ⟨w.heap.size, 1, none⟩) (by show w.heap.size ≤ w.heap.size; omega) (.int .i64 s.n)
          replace bW3 := bW3.setCell (p := ⟨w.heap.size, 2, none⟩) (by show w.heap.size ≤ w.heap.size; omega) (.int .i64 s.ticks)
          replace bW3 := bW3.setCell (p := ⟨w.heap.size, 3, none⟩) (by show w.heap.size ≤ w.heap.size; omega) (.int .i64 s.tab)
          replace bW3 := bW3.setCell (p := ⟨w.heap.size, 4, none⟩) (by show w.heap.size ≤ w.heap.size; omega) (.int .i64 s.lev)
          replace bW3 := bW3.setCell (p := ⟨w.heap.size, 5, none⟩) (by show w.heap.size ≤ w.heap.size; omega) (.string s.key)
          replace bW3 := bW3.setCell (p := ⟨w.heap.size, 6, none⟩) (by show w.heap.size ≤ w.heap.size; omega) (.string s.en)
          replace bW3 := bW3.setCell (p := ⟨w.heap.size, 7, none⟩) (by show w.heap.size ≤ w.heap.size; omega) (.string s.val)
          replace bW3 := bW3.setCell (p := ⟨w.heap.size, 8, none⟩) (by show w.heap.size ≤ w.heap.size; omega) (.int .i64 s.ctx)
          exact bodyPost_ret (v := .tuple #[.agg (stpC s), .int .i64 0]) (by simp [results, Tryd.results7, go_sem, zz, stpC]) rfl ⟨(by unfold readV; rw [FN.out]), bW3⟩
end Go.Proofs.YtimmfcbpdnlfjaaDoor
