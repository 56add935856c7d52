/- Contracts of the reference's has and bare. -/
import Derived.Test.YtimmfcbpdnlfjaaDoorStpB
import Derived.BigGuard
import Derived.Test.YtimmfcbpdnlfjaaDoorRnZ
namespace Go.Proofs.YtimmfcbpdnlfjaaDoor
open Go.RowKit Go.Sort
set_option linter.unusedVariables false

theorem codeR_ne {p q : Pt} (h : p ≠ q) : (((codeR p).toNat : Int) == ((codeR q).toNat : Int)) = false := by
  cases p <;> cases q <;> first | exact absurd rfl h | rfl
set_option maxRecDepth 100000 in
set_option maxHeartbeats 2000000 in
theorem ref40_has (ps : List Pt) (p : Pt) (w : World) (hl : ps.length ≤ 6) : Calls Tryd.prog 47 #[.string ⟨(ps.map codeR).toArray⟩, .int .u8 ((codeR p).toNat : Int)] w fun e w' => e = .returned (.bool (ps.contains p)) ∧ w = w' := by
  obtain ⟨P, hP⟩ : ∃ P : ByteArray, ⟨(ps.map codeR).toArray⟩ = P := ⟨_, rfl⟩
  have hsz : P.size = ps.length := by rw [← hP]; exact parts_size ps codeR
  have hat : ∀ (k : Nat) (h : k < ps.length) (w : World), (Instr.index 9 (.string P) (.int .i64 (k : Int))).run Tryd.prog w = .ok (.int .u8 ((codeR ps[k]).toNat : Int)) w := by
    intro k h w
    rw [index_at P k (by omega) w]
    subst hP
    rw [parts_get ps codeR k h]
  rw [hP]
  clear hP
  go_enter Tryd.func47, Tryd.ntmps47
  go_wp2_with fail
  go_loopw [5] (fun v5 wr => ∃ k : Nat, v5 = .int .i64 k ∧ k ≤ ps.length ∧ wr = w ∧ p ∉ ps.take k) (fun v5 _ => ps.length - (RowKit.intOf v5).toNat)
  case atStart => exact ⟨0, rfl, Nat.zero_le _, rfl, by simp⟩
  case round =>
    obtain ⟨k, rfl, hk, rfl, hn⟩ := hrel
    by_cases hkl : k < ps.length
    · have hx := hat k hkl
      obtain ⟨q, hq⟩ : ∃ q, ps[k] = q := ⟨_, rfl⟩
      rw [hq] at hx
      have htk : ps.take (k + 1) = ps.take k ++ [q] := by rw [List.take_succ_eq_append_getElem hkl, hq]
      by_cases hpq : q = p
      · subst hpq
        have hm : Hid (ps.contains q = true) := Lib.hid (by rw [← hq]; simp)
        clear hn htk hat hq
        go_wp2_with fail
        go_ret
        exact ⟨by rw [hm.out]; rfl, rfl⟩
      · have hc := codeR_ne hpq
        have HN : Hid (p ∉ ps.take (k + 1)) := Lib.hid (by rw [htk]; simp [hn, Ne.symm hpq])
        clear hn htk hat hq
        go_wp2_with fail
        go_roundw
        case rel => exact ⟨k + 1, by go_num, hkl, by simp, HN.out⟩
        case measure => simp [RowKit.intOf]; omega
    · have htk : ps.take k = ps := List.take_of_length_le (by omega)
      rw [htk] at hn
      have hm : Hid (ps.contains p = false) := Lib.hid (by simp [hn])
      clear hn htk hat
      go_wp2_with fail
      go_ret
      exact ⟨by rw [hm.out]; rfl, rfl⟩

theorem text_ne {s : ByteArray} (h : (s.toList == []) = false) : (s.toList == (⟨#[]⟩ : ByteArray).toList) = false := by
  rw [toList_nil]
  exact h

set_option maxRecDepth 100000 in
set_option maxHeartbeats 4000000 in
theorem ref40_bare_nalkvc (s : Stp) (w : World) : Calls Tryd.prog 26 #[.agg (stpC s), .string ⟨([.n, .a, .l, .k, .v, .c].map codeR).toArray⟩] w fun e w' => e = .returned (.bool (bareB s [.n, .a, .l, .k, .v, .c])) ∧ Below w.heap.size w w' := by
  obtain ⟨W, hW⟩ : ∃ W, w.alloc (.cells (stpC s) 26) = W := ⟨_, rfl⟩
  have bW : Below w.heap.size w W := by rw [← hW]; exact (Below.refl _ _).alloc (Nat.le_refl _) _
  have BS : Blk W w.heap.size 26 (stpC s) := by rw [← hW]; exact Blk.new _ _ _
  have s1 : W.cell? ⟨w.heap.size, 1, none⟩ = some (.int .i64 s.n) := BS.cell 1
  have s2 : W.cell? ⟨w.heap.size, 2, none⟩ = some (.int .i64 s.ticks) := BS.cell 2
  have s8 : W.cell? ⟨w.heap.size, 8, none⟩ = some (.int .i64 s.ctx) := BS.cell 8
  have s3 : W.cell? ⟨w.heap.size, 3, none⟩ = some (.int .i64 s.tab) := BS.cell 3
  have s4 : W.cell? ⟨w.heap.size, 4, none⟩ = some (.int .i64 s.lev) := BS.cell 4
  have s5 : W.cell? ⟨w.heap.size, 5, none⟩ = some (.string s.key) := BS.cell 5
  have s6 : W.cell? ⟨w.heap.size, 6, none⟩ = some (.string s.en) := BS.cell 6
  have s7 : W.cell? ⟨w.heap.size, 7, none⟩ = some (.string s.val) := BS.cell 7
  obtain ⟨P, hP⟩ : ∃ P : ByteArray, ⟨([.n, .a, .l, .k, .v, .c].map codeR).toArray⟩ = P := ⟨_, rfl⟩
  have hn := Lib.hid (fun w => ref40_has [.n, .a, .l, .k, .v, .c] .n w (by decide))
  rw [hP, show ((codeR .n).toNat : Int) = 78 from rfl, show ([.n, .a, .l, .k, .v, .c] : List Pt).contains .n = true from rfl] at hn
  have ht := Lib.hid (fun w => ref40_has [.n, .a, .l, .k, .v, .c] .t w (by decide))
  rw [hP, show ((codeR .t).toNat : Int) = 83 from rfl, show ([.n, .a, .l, .k, .v, .c] : List Pt).contains .t = false from rfl] at ht
  have hc := Lib.hid (fun w => ref40_has [.n, .a, .l, .k, .v, .c] .c w (by decide))
  rw [hP, show ((codeR .c).toNat : Int) = 67 from rfl, show ([.n, .a, .l, .k, .v, .c] : List Pt).contains .c = true from rfl] at hc
  have ha := Lib.hid (fun w => ref40_has [.n, .a, .l, .k, .v, .c] .a w (by decide))
  rw [hP, show ((codeR .a).toNat : Int) = 84 from rfl, show ([.n, .a, .l, .k, .v, .c] : List Pt).contains .a = true from rfl] at ha
  have hl := Lib.hid (fun w => ref40_has [.n, .a, .l, .k, .v, .c] .l w (by decide))
  rw [hP, show ((codeR .l).toNat : Int) = 76 from rfl, show ([.n, .a, .l, .k, .v, .c] : List Pt).contains .l = true from rfl] at hl
  have hk := Lib.hid (fun w => ref40_has [.n, .a, .l, .k, .v, .c] .k w (by decide))
  rw [hP, show ((codeR .k).toNat : Int) = 75 from rfl, show ([.n, .a, .l, .k, .v, .c] : List Pt).contains .k = true from rfl] at hk
  have he := Lib.hid (fun w => ref40_has [.n, .a, .l, .k, .v, .c] .e w (by decide))
  rw [hP, show ((codeR .e).toNat : Int) = 69 from rfl, show ([.n, .a, .l, .k, .v, .c] : List Pt).contains .e = false from rfl] at he
  have hv := Lib.hid (fun w => ref40_has [.n, .a, .l, .k, .v, .c] .v w (by decide))
  rw [hP, show ((codeR .v).toNat : Int) = 86 from rfl, show ([.n, .a, .l, .k, .v, .c] : List Pt).contains .v = true from rfl] at hv
  rw [hP]
  clear hP
  unfold stpC at hW ⊢
  by_cases et : (s.ticks == 0) = false
  · have F : Hid (bareB s [.n, .a, .l, .k, .v, .c] = false) := Lib.hid (by simp [bareB, et])
    rw [F.out]
    go_enter Tryd.func26, Tryd.ntmps26
    simp only [List.append_eq, List.cons_append, List.nil_append]
    go_wp2_with fail
    clear hW
    refine (hn.out _).mono ?_
    rintro e wn ⟨rfl, rfl⟩
    go_wp2_with fail
    refine (ht.out _).mono ?_
    rintro e wt ⟨rfl, rfl⟩
    go_wp2_with fail
    go_ret
    exact ⟨rfl, bW⟩
  replace et : (s.ticks == 0) = true := by simpa using et
  by_cases ee : (s.en.toList == []) = false
  · have F : Hid (bareB s [.n, .a, .l, .k, .v, .c] = false) := Lib.hid (by simp [bareB, et, ee])
    rw [F.out]
    have ee2 : (s.en.toList == (⟨#[]⟩ : ByteArray).toList) = false := text_ne ee
    go_enter Tryd.func26, Tryd.ntmps26
    simp only [List.append_eq, List.cons_append, List.nil_append]
    go_wp2_with fail
    clear hW
    refine (hn.out _).mono ?_
    rintro e wn ⟨rfl, rfl⟩
    go_wp2_with fail
    refine (ht.out _).mono ?_
    rintro e wt ⟨rfl, rfl⟩
    go_wp2_with fail
    refine (hc.out _).mono ?_
    rintro e wc ⟨rfl, rfl⟩
    go_wp2_with fail
    refine (ha.out _).mono ?_
    rintro e wa ⟨rfl, rfl⟩
    go_wp2_with fail
    refine (hl.out _).mono ?_
    rintro e wl ⟨rfl, rfl⟩
    go_wp2_with fail
    refine (hk.out _).mono ?_
    rintro e wk ⟨rfl, rfl⟩
    go_wp2_with fail
    refine (he.out _).mono ?_
    rintro e we ⟨rfl, rfl⟩
    go_wp2_with fail
    go_ret
    exact ⟨rfl, bW⟩
  replace ee : (s.en.toList == []) = true := by simpa using ee
  have ee2 : (s.en.toList == (⟨#[]⟩ : ByteArray).toList) = true := by rw [toList_nil]; exact ee
  have F : Hid (bareB s [.n, .a, .l, .k, .v, .c] = true) := Lib.hid (by simp [bareB, et, ee])
  rw [F.out]
  go_enter Tryd.func26, Tryd.ntmps26
  simp only [List.append_eq, List.cons_append, List.nil_append]
  go_wp2_with fail
  clear hW
  refine (hn.out _).mono ?_
  rintro e wn ⟨rfl, rfl⟩
  go_wp2_with fail
  refine (ht.out _).mono ?_
  rintro e wt ⟨rfl, rfl⟩
  go_wp2_with fail
  refine (hc.out _).mono ?_
  rintro e wc ⟨rfl, rfl⟩
  go_wp2_with fail
  refine (ha.out _).mono ?_
  rintro e wa ⟨rfl, rfl⟩
  go_wp2_with fail
  refine (hl.out _).mono ?_
  rintro e wl ⟨rfl, rfl⟩
  go_wp2_with fail
  refine (hk.out _).mono ?_
  rintro e wk ⟨rfl, rfl⟩
  go_wp2_with fail
  refine (he.out _).mono ?_
  rintro e we ⟨rfl, rfl⟩
  go_wp2_with fail
  refine (hv.out _).mono ?_
  rintro e wv ⟨rfl, rfl⟩
  go_wp2_with fail
  go_ret
  exact ⟨rfl, bW⟩

set_option maxRecDepth 100000 in
set_option maxHeartbeats 4000000 in
theorem ref40_bare_nalkvt (s : Stp) (w : World) : Calls Tryd.prog 26 #[.agg (stpC s), .string ⟨([.n, .a, .l, .k, .v, .t].map codeR).toArray⟩] w fun e w' => e = .returned (.bool (bareB s [.n, .a, .l, .k, .v, .t])) ∧ Below w.heap.size w w' := by
  obtain ⟨W, hW⟩ : ∃ W, w.alloc (.cells (stpC s) 26) = W := ⟨_, rfl⟩
  have bW : Below w.heap.size w W := by rw [← hW]; exact (Below.refl _ _).alloc (Nat.le_refl _) _
  have BS : Blk W w.heap.size 26 (stpC s) := by rw [← hW]; exact Blk.new _ _ _
  have s1 : W.cell? ⟨w.heap.size, 1, none⟩ = some (.int .i64 s.n) := BS.cell 1
  have s2 : W.cell? ⟨w.heap.size, 2, none⟩ = some (.int .i64 s.ticks) := BS.cell 2
  have s8 : W.cell? ⟨w.heap.size, 8, none⟩ = some (.int .i64 s.ctx) := BS.cell 8
  have s3 : W.cell? ⟨w.heap.size, 3, none⟩ = some (.int .i64 s.tab) := BS.cell 3
  have s4 : W.cell? ⟨w.heap.size, 4, none⟩ = some (.int .i64 s.lev) := BS.cell 4
  have s5 : W.cell? ⟨w.heap.size, 5, none⟩ = some (.string s.key) := BS.cell 5
  have s6 : W.cell? ⟨w.heap.size, 6, none⟩ = some (.string s.en) := BS.cell 6
  have s7 : W.cell? ⟨w.heap.size, 7, none⟩ = some (.string s.val) := BS.cell 7
  obtain ⟨P, hP⟩ : ∃ P : ByteArray, ⟨([.n, .a, .l, .k, .v, .t].map codeR).toArray⟩ = P := ⟨_, rfl⟩
  have hn := Lib.hid (fun w => ref40_has [.n, .a, .l, .k, .v, .t] .n w (by decide))
  rw [hP, show ((codeR .n).toNat : Int) = 78 from rfl, show ([.n, .a, .l, .k, .v, .t] : List Pt).contains .n = true from rfl] at hn
  have ht := Lib.hid (fun w => ref40_has [.n, .a, .l, .k, .v, .t] .t w (by decide))
  rw [hP, show ((codeR .t).toNat : Int) = 83 from rfl, show ([.n, .a, .l, .k, .v, .t] : List Pt).contains .t = true from rfl] at ht
  have hc := Lib.hid (fun w => ref40_has [.n, .a, .l, .k, .v, .t] .c w (by decide))
  rw [hP, show ((codeR .c).toNat : Int) = 67 from rfl, show ([.n, .a, .l, .k, .v, .t] : List Pt).contains .c = false from rfl] at hc
  have ha := Lib.hid (fun w => ref40_has [.n, .a, .l, .k, .v, .t] .a w (by decide))
  rw [hP, show ((codeR .a).toNat : Int) = 84 from rfl, show ([.n, .a, .l, .k, .v, .t] : List Pt).contains .a = true from rfl] at ha
  have hl := Lib.hid (fun w => ref40_has [.n, .a, .l, .k, .v, .t] .l w (by decide))
  rw [hP, show ((codeR .l).toNat : Int) = 76 from rfl, show ([.n, .a, .l, .k, .v, .t] : List Pt).contains .l = true from rfl] at hl
  have hk := Lib.hid (fun w => ref40_has [.n, .a, .l, .k, .v, .t] .k w (by decide))
  rw [hP, show ((codeR .k).toNat : Int) = 75 from rfl, show ([.n, .a, .l, .k, .v, .t] : List Pt).contains .k = true from rfl] at hk
  have he := Lib.hid (fun w => ref40_has [.n, .a, .l, .k, .v, .t] .e w (by decide))
  rw [hP, show ((codeR .e).toNat : Int) = 69 from rfl, show ([.n, .a, .l, .k, .v, .t] : List Pt).contains .e = false from rfl] at he
  have hv := Lib.hid (fun w => ref40_has [.n, .a, .l, .k, .v, .t] .v w (by decide))
  rw [hP, show ((codeR .v).toNat : Int) = 86 from rfl, show ([.n, .a, .l, .k, .v, .t] : List Pt).contains .v = true from rfl] at hv
  rw [hP]
  clear hP
  unfold stpC at hW ⊢
  by_cases ec : (s.ctx == (-1)) = false
  · have F : Hid (bareB s [.n, .a, .l, .k, .v, .t] = false) := Lib.hid (by simp [bareB, ec])
    rw [F.out]
    go_enter Tryd.func26, Tryd.ntmps26
    simp only [List.append_eq, List.cons_append, List.nil_append]
    go_wp2_with fail
    clear hW
    refine (hn.out _).mono ?_
    rintro e wn ⟨rfl, rfl⟩
    go_wp2_with fail
    refine (ht.out _).mono ?_
    rintro e wt ⟨rfl, rfl⟩
    go_wp2_with fail
    refine (hc.out _).mono ?_
    rintro e wc ⟨rfl, rfl⟩
    go_wp2_with fail
    go_ret
    exact ⟨rfl, bW⟩
  replace ec : (s.ctx == (-1)) = true := by simpa using ec
  by_cases ee : (s.en.toList == []) = false
  · have F : Hid (bareB s [.n, .a, .l, .k, .v, .t] = false) := Lib.hid (by simp [bareB, ec, ee])
    rw [F.out]
    have ee2 : (s.en.toList == (⟨#[]⟩ : ByteArray).toList) = false := text_ne ee
    go_enter Tryd.func26, Tryd.ntmps26
    simp only [List.append_eq, List.cons_append, List.nil_append]
    go_wp2_with fail
    clear hW
    refine (hn.out _).mono ?_
    rintro e wn ⟨rfl, rfl⟩
    go_wp2_with fail
    refine (ht.out _).mono ?_
    rintro e wt ⟨rfl, rfl⟩
    go_wp2_with fail
    refine (hc.out _).mono ?_
    rintro e wc ⟨rfl, rfl⟩
    go_wp2_with fail
    refine (ha.out _).mono ?_
    rintro e wa ⟨rfl, rfl⟩
    go_wp2_with fail
    refine (hl.out _).mono ?_
    rintro e wl ⟨rfl, rfl⟩
    go_wp2_with fail
    refine (hk.out _).mono ?_
    rintro e wk ⟨rfl, rfl⟩
    go_wp2_with fail
    refine (he.out _).mono ?_
    rintro e we ⟨rfl, rfl⟩
    go_wp2_with fail
    go_ret
    exact ⟨rfl, bW⟩
  replace ee : (s.en.toList == []) = true := by simpa using ee
  have ee2 : (s.en.toList == (⟨#[]⟩ : ByteArray).toList) = true := by rw [toList_nil]; exact ee
  have F : Hid (bareB s [.n, .a, .l, .k, .v, .t] = true) := Lib.hid (by simp [bareB, ec, ee])
  rw [F.out]
  go_enter Tryd.func26, Tryd.ntmps26
  simp only [List.append_eq, List.cons_append, List.nil_append]
  go_wp2_with fail
  clear hW
  refine (hn.out _).mono ?_
  rintro e wn ⟨rfl, rfl⟩
  go_wp2_with fail
  refine (ht.out _).mono ?_
  rintro e wt ⟨rfl, rfl⟩
  go_wp2_with fail
  refine (hc.out _).mono ?_
  rintro e wc ⟨rfl, rfl⟩
  go_wp2_with fail
  refine (ha.out _).mono ?_
  rintro e wa ⟨rfl, rfl⟩
  go_wp2_with fail
  refine (hl.out _).mono ?_
  rintro e wl ⟨rfl, rfl⟩
  go_wp2_with fail
  refine (hk.out _).mono ?_
  rintro e wk ⟨rfl, rfl⟩
  go_wp2_with fail
  refine (he.out _).mono ?_
  rintro e we ⟨rfl, rfl⟩
  go_wp2_with fail
  refine (hv.out _).mono ?_
  rintro e wv ⟨rfl, rfl⟩
  go_wp2_with fail
  go_ret
  exact ⟨rfl, bW⟩

set_option maxRecDepth 100000 in
set_option maxHeartbeats 4000000 in
theorem ref40_bare_nalkc (s : Stp) (w : World) : Calls Tryd.prog 26 #[.agg (stpC s), .string ⟨([.n, .a, .l, .k, .c].map codeR).toArray⟩] w fun e w' => e = .returned (.bool (bareB s [.n, .a, .l, .k, .c])) ∧ Below w.heap.size w w' := by
  obtain ⟨W, hW⟩ : ∃ W, w.alloc (.cells (stpC s) 26) = W := ⟨_, rfl⟩
  have bW : Below w.heap.size w W := by rw [← hW]; exact (Below.refl _ _).alloc (Nat.le_refl _) _
  have BS : Blk W w.heap.size 26 (stpC s) := by rw [← hW]; exact Blk.new _ _ _
  have s1 : W.cell? ⟨w.heap.size, 1, none⟩ = some (.int .i64 s.n) := BS.cell 1
  have s2 : W.cell? ⟨w.heap.size, 2, none⟩ = some (.int .i64 s.ticks) := BS.cell 2
  have s8 : W.cell? ⟨w.heap.size, 8, none⟩ = some (.int .i64 s.ctx) := BS.cell 8
  have s3 : W.cell? ⟨w.heap.size, 3, none⟩ = some (.int .i64 s.tab) := BS.cell 3
  have s4 : W.cell? ⟨w.heap.size, 4, none⟩ = some (.int .i64 s.lev) := BS.cell 4
  have s5 : W.cell? ⟨w.heap.size, 5, none⟩ = some (.string s.key) := BS.cell 5
  have s6 : W.cell? ⟨w.heap.size, 6, none⟩ = some (.string s.en) := BS.cell 6
  have s7 : W.cell? ⟨w.heap.size, 7, none⟩ = some (.string s.val) := BS.cell 7
  obtain ⟨P, hP⟩ : ∃ P : ByteArray, ⟨([.n, .a, .l, .k, .c].map codeR).toArray⟩ = P := ⟨_, rfl⟩
  have hn := Lib.hid (fun w => ref40_has [.n, .a, .l, .k, .c] .n w (by decide))
  rw [hP, show ((codeR .n).toNat : Int) = 78 from rfl, show ([.n, .a, .l, .k, .c] : List Pt).contains .n = true from rfl] at hn
  have ht := Lib.hid (fun w => ref40_has [.n, .a, .l, .k, .c] .t w (by decide))
  rw [hP, show ((codeR .t).toNat : Int) = 83 from rfl, show ([.n, .a, .l, .k, .c] : List Pt).contains .t = false from rfl] at ht
  have hc := Lib.hid (fun w => ref40_has [.n, .a, .l, .k, .c] .c w (by decide))
  rw [hP, show ((codeR .c).toNat : Int) = 67 from rfl, show ([.n, .a, .l, .k, .c] : List Pt).contains .c = true from rfl] at hc
  have ha := Lib.hid (fun w => ref40_has [.n, .a, .l, .k, .c] .a w (by decide))
  rw [hP, show ((codeR .a).toNat : Int) = 84 from rfl, show ([.n, .a, .l, .k, .c] : List Pt).contains .a = true from rfl] at ha
  have hl := Lib.hid (fun w => ref40_has [.n, .a, .l, .k, .c] .l w (by decide))
  rw [hP, show ((codeR .l).toNat : Int) = 76 from rfl, show ([.n, .a, .l, .k, .c] : List Pt).contains .l = true from rfl] at hl
  have hk := Lib.hid (fun w => ref40_has [.n, .a, .l, .k, .c] .k w (by decide))
  rw [hP, show ((codeR .k).toNat : Int) = 75 from rfl, show ([.n, .a, .l, .k, .c] : List Pt).contains .k = true from rfl] at hk
  have he := Lib.hid (fun w => ref40_has [.n, .a, .l, .k, .c] .e w (by decide))
  rw [hP, show ((codeR .e).toNat : Int) = 69 from rfl, show ([.n, .a, .l, .k, .c] : List Pt).contains .e = false from rfl] at he
  have hv := Lib.hid (fun w => ref40_has [.n, .a, .l, .k, .c] .v w (by decide))
  rw [hP, show ((codeR .v).toNat : Int) = 86 from rfl, show ([.n, .a, .l, .k, .c] : List Pt).contains .v = false from rfl] at hv
  rw [hP]
  clear hP
  unfold stpC at hW ⊢
  by_cases et : (s.ticks == 0) = false
  · have F : Hid (bareB s [.n, .a, .l, .k, .c] = false) := Lib.hid (by simp [bareB, et])
    rw [F.out]
    go_enter Tryd.func26, Tryd.ntmps26
    simp only [List.append_eq, List.cons_append, List.nil_append]
    go_wp2_with fail
    clear hW
    refine (hn.out _).mono ?_
    rintro e wn ⟨rfl, rfl⟩
    go_wp2_with fail
    refine (ht.out _).mono ?_
    rintro e wt ⟨rfl, rfl⟩
    go_wp2_with fail
    go_ret
    exact ⟨rfl, bW⟩
  replace et : (s.ticks == 0) = true := by simpa using et
  by_cases ee : (s.en.toList == []) = false
  · have F : Hid (bareB s [.n, .a, .l, .k, .c] = false) := Lib.hid (by simp [bareB, et, ee])
    rw [F.out]
    have ee2 : (s.en.toList == (⟨#[]⟩ : ByteArray).toList) = false := text_ne ee
    go_enter Tryd.func26, Tryd.ntmps26
    simp only [List.append_eq, List.cons_append, List.nil_append]
    go_wp2_with fail
    clear hW
    refine (hn.out _).mono ?_
    rintro e wn ⟨rfl, rfl⟩
    go_wp2_with fail
    refine (ht.out _).mono ?_
    rintro e wt ⟨rfl, rfl⟩
    go_wp2_with fail
    refine (hc.out _).mono ?_
    rintro e wc ⟨rfl, rfl⟩
    go_wp2_with fail
    refine (ha.out _).mono ?_
    rintro e wa ⟨rfl, rfl⟩
    go_wp2_with fail
    refine (hl.out _).mono ?_
    rintro e wl ⟨rfl, rfl⟩
    go_wp2_with fail
    refine (hk.out _).mono ?_
    rintro e wk ⟨rfl, rfl⟩
    go_wp2_with fail
    refine (he.out _).mono ?_
    rintro e we ⟨rfl, rfl⟩
    go_wp2_with fail
    go_ret
    exact ⟨rfl, bW⟩
  replace ee : (s.en.toList == []) = true := by simpa using ee
  have ee2 : (s.en.toList == (⟨#[]⟩ : ByteArray).toList) = true := by rw [toList_nil]; exact ee
  by_cases ev : (s.val.toList == []) = false
  · have F : Hid (bareB s [.n, .a, .l, .k, .c] = false) := Lib.hid (by simp [bareB, et, ee, ev])
    rw [F.out]
    have ev2 : (s.val.toList == (⟨#[]⟩ : ByteArray).toList) = false := text_ne ev
    go_enter Tryd.func26, Tryd.ntmps26
    simp only [List.append_eq, List.cons_append, List.nil_append]
    go_wp2_with fail
    clear hW
    refine (hn.out _).mono ?_
    rintro e wn ⟨rfl, rfl⟩
    go_wp2_with fail
    refine (ht.out _).mono ?_
    rintro e wt ⟨rfl, rfl⟩
    go_wp2_with fail
    refine (hc.out _).mono ?_
    rintro e wc ⟨rfl, rfl⟩
    go_wp2_with fail
    refine (ha.out _).mono ?_
    rintro e wa ⟨rfl, rfl⟩
    go_wp2_with fail
    refine (hl.out _).mono ?_
    rintro e wl ⟨rfl, rfl⟩
    go_wp2_with fail
    refine (hk.out _).mono ?_
    rintro e wk ⟨rfl, rfl⟩
    go_wp2_with fail
    refine (he.out _).mono ?_
    rintro e we ⟨rfl, rfl⟩
    go_wp2_with fail
    refine (hv.out _).mono ?_
    rintro e wv ⟨rfl, rfl⟩
    go_wp2_with fail
    go_ret
    exact ⟨rfl, bW⟩
  replace ev : (s.val.toList == []) = true := by simpa using ev
  have ev2 : (s.val.toList == (⟨#[]⟩ : ByteArray).toList) = true := by rw [toList_nil]; exact ev
  have F : Hid (bareB s [.n, .a, .l, .k, .c] = true) := Lib.hid (by simp [bareB, et, ee, ev])
  rw [F.out]
  go_enter Tryd.func26, Tryd.ntmps26
  simp only [List.append_eq, List.cons_append, List.nil_append]
  go_wp2_with fail
  clear hW
  refine (hn.out _).mono ?_
  rintro e wn ⟨rfl, rfl⟩
  go_wp2_with fail
  refine (ht.out _).mono ?_
  rintro e wt ⟨rfl, rfl⟩
  go_wp2_with fail
  refine (hc.out _).mono ?_
  rintro e wc ⟨rfl, rfl⟩
  go_wp2_with fail
  refine (ha.out _).mono ?_
  rintro e wa ⟨rfl, rfl⟩
  go_wp2_with fail
  refine (hl.out _).mono ?_
  rintro e wl ⟨rfl, rfl⟩
  go_wp2_with fail
  refine (hk.out _).mono ?_
  rintro e wk ⟨rfl, rfl⟩
  go_wp2_with fail
  refine (he.out _).mono ?_
  rintro e we ⟨rfl, rfl⟩
  go_wp2_with fail
  refine (hv.out _).mono ?_
  rintro e wv ⟨rfl, rfl⟩
  go_wp2_with fail
  go_ret
  exact ⟨rfl, bW⟩

set_option maxRecDepth 100000 in
set_option maxHeartbeats 4000000 in
theorem ref40_bare_nalke (s : Stp) (w : World) : Calls Tryd.prog 26 #[.agg (stpC s), .string ⟨([.n, .a, .l, .k, .e].map codeR).toArray⟩] w fun e w' => e = .returned (.bool (bareB s [.n, .a, .l, .k, .e])) ∧ Below w.heap.size w w' := by
  obtain ⟨W, hW⟩ : ∃ W, w.alloc (.cells (stpC s) 26) = W := ⟨_, rfl⟩
  have bW : Below w.heap.size w W := by rw [← hW]; exact (Below.refl _ _).alloc (Nat.le_refl _) _
  have BS : Blk W w.heap.size 26 (stpC s) := by rw [← hW]; exact Blk.new _ _ _
  have s1 : W.cell? ⟨w.heap.size, 1, none⟩ = some (.int .i64 s.n) := BS.cell 1
  have s2 : W.cell? ⟨w.heap.size, 2, none⟩ = some (.int .i64 s.ticks) := BS.cell 2
  have s8 : W.cell? ⟨w.heap.size, 8, none⟩ = some (.int .i64 s.ctx) := BS.cell 8
  have s3 : W.cell? ⟨w.heap.size, 3, none⟩ = some (.int .i64 s.tab) := BS.cell 3
  have s4 : W.cell? ⟨w.heap.size, 4, none⟩ = some (.int .i64 s.lev) := BS.cell 4
  have s5 : W.cell? ⟨w.heap.size, 5, none⟩ = some (.string s.key) := BS.cell 5
  have s6 : W.cell? ⟨w.heap.size, 6, none⟩ = some (.string s.en) := BS.cell 6
  have s7 : W.cell? ⟨w.heap.size, 7, none⟩ = some (.string s.val) := BS.cell 7
  obtain ⟨P, hP⟩ : ∃ P : ByteArray, ⟨([.n, .a, .l, .k, .e].map codeR).toArray⟩ = P := ⟨_, rfl⟩
  have hn := Lib.hid (fun w => ref40_has [.n, .a, .l, .k, .e] .n w (by decide))
  rw [hP, show ((codeR .n).toNat : Int) = 78 from rfl, show ([.n, .a, .l, .k, .e] : List Pt).contains .n = true from rfl] at hn
  have ht := Lib.hid (fun w => ref40_has [.n, .a, .l, .k, .e] .t w (by decide))
  rw [hP, show ((codeR .t).toNat : Int) = 83 from rfl, show ([.n, .a, .l, .k, .e] : List Pt).contains .t = false from rfl] at ht
  have hc := Lib.hid (fun w => ref40_has [.n, .a, .l, .k, .e] .c w (by decide))
  rw [hP, show ((codeR .c).toNat : Int) = 67 from rfl, show ([.n, .a, .l, .k, .e] : List Pt).contains .c = false from rfl] at hc
  have ha := Lib.hid (fun w => ref40_has [.n, .a, .l, .k, .e] .a w (by decide))
  rw [hP, show ((codeR .a).toNat : Int) = 84 from rfl, show ([.n, .a, .l, .k, .e] : List Pt).contains .a = true from rfl] at ha
  have hl := Lib.hid (fun w => ref40_has [.n, .a, .l, .k, .e] .l w (by decide))
  rw [hP, show ((codeR .l).toNat : Int) = 76 from rfl, show ([.n, .a, .l, .k, .e] : List Pt).contains .l = true from rfl] at hl
  have hk := Lib.hid (fun w => ref40_has [.n, .a, .l, .k, .e] .k w (by decide))
  rw [hP, show ((codeR .k).toNat : Int) = 75 from rfl, show ([.n, .a, .l, .k, .e] : List Pt).contains .k = true from rfl] at hk
  have he := Lib.hid (fun w => ref40_has [.n, .a, .l, .k, .e] .e w (by decide))
  rw [hP, show ((codeR .e).toNat : Int) = 69 from rfl, show ([.n, .a, .l, .k, .e] : List Pt).contains .e = true from rfl] at he
  have hv := Lib.hid (fun w => ref40_has [.n, .a, .l, .k, .e] .v w (by decide))
  rw [hP, show ((codeR .v).toNat : Int) = 86 from rfl, show ([.n, .a, .l, .k, .e] : List Pt).contains .v = false from rfl] at hv
  rw [hP]
  clear hP
  unfold stpC at hW ⊢
  by_cases et : (s.ticks == 0) = false
  · have F : Hid (bareB s [.n, .a, .l, .k, .e] = false) := Lib.hid (by simp [bareB, et])
    rw [F.out]
    go_enter Tryd.func26, Tryd.ntmps26
    simp only [List.append_eq, List.cons_append, List.nil_append]
    go_wp2_with fail
    clear hW
    refine (hn.out _).mono ?_
    rintro e wn ⟨rfl, rfl⟩
    go_wp2_with fail
    refine (ht.out _).mono ?_
    rintro e wt ⟨rfl, rfl⟩
    go_wp2_with fail
    go_ret
    exact ⟨rfl, bW⟩
  replace et : (s.ticks == 0) = true := by simpa using et
  by_cases ec : (s.ctx == (-1)) = false
  · have F : Hid (bareB s [.n, .a, .l, .k, .e] = false) := Lib.hid (by simp [bareB, et, ec])
    rw [F.out]
    go_enter Tryd.func26, Tryd.ntmps26
    simp only [List.append_eq, List.cons_append, List.nil_append]
    go_wp2_with fail
    clear hW
    refine (hn.out _).mono ?_
    rintro e wn ⟨rfl, rfl⟩
    go_wp2_with fail
    refine (ht.out _).mono ?_
    rintro e wt ⟨rfl, rfl⟩
    go_wp2_with fail
    refine (hc.out _).mono ?_
    rintro e wc ⟨rfl, rfl⟩
    go_wp2_with fail
    go_ret
    exact ⟨rfl, bW⟩
  replace ec : (s.ctx == (-1)) = true := by simpa using ec
  by_cases ev : (s.val.toList == []) = false
  · have F : Hid (bareB s [.n, .a, .l, .k, .e] = false) := Lib.hid (by simp [bareB, et, ec, ev])
    rw [F.out]
    have ev2 : (s.val.toList == (⟨#[]⟩ : ByteArray).toList) = false := text_ne ev
    go_enter Tryd.func26, Tryd.ntmps26
    simp only [List.append_eq, List.cons_append, List.nil_append]
    go_wp2_with fail
    clear hW
    refine (hn.out _).mono ?_
    rintro e wn ⟨rfl, rfl⟩
    go_wp2_with fail
    refine (ht.out _).mono ?_
    rintro e wt ⟨rfl, rfl⟩
    go_wp2_with fail
    refine (hc.out _).mono ?_
    rintro e wc ⟨rfl, rfl⟩
    go_wp2_with fail
    refine (ha.out _).mono ?_
    rintro e wa ⟨rfl, rfl⟩
    go_wp2_with fail
    refine (hl.out _).mono ?_
    rintro e wl ⟨rfl, rfl⟩
    go_wp2_with fail
    refine (hk.out _).mono ?_
    rintro e wk ⟨rfl, rfl⟩
    go_wp2_with fail
    refine (he.out _).mono ?_
    rintro e we ⟨rfl, rfl⟩
    go_wp2_with fail
    refine (hv.out _).mono ?_
    rintro e wv ⟨rfl, rfl⟩
    go_wp2_with fail
    go_ret
    exact ⟨rfl, bW⟩
  replace ev : (s.val.toList == []) = true := by simpa using ev
  have ev2 : (s.val.toList == (⟨#[]⟩ : ByteArray).toList) = true := by rw [toList_nil]; exact ev
  have F : Hid (bareB s [.n, .a, .l, .k, .e] = true) := Lib.hid (by simp [bareB, et, ec, ev])
  rw [F.out]
  go_enter Tryd.func26, Tryd.ntmps26
  simp only [List.append_eq, List.cons_append, List.nil_append]
  go_wp2_with fail
  clear hW
  refine (hn.out _).mono ?_
  rintro e wn ⟨rfl, rfl⟩
  go_wp2_with fail
  refine (ht.out _).mono ?_
  rintro e wt ⟨rfl, rfl⟩
  go_wp2_with fail
  refine (hc.out _).mono ?_
  rintro e wc ⟨rfl, rfl⟩
  go_wp2_with fail
  refine (ha.out _).mono ?_
  rintro e wa ⟨rfl, rfl⟩
  go_wp2_with fail
  refine (hl.out _).mono ?_
  rintro e wl ⟨rfl, rfl⟩
  go_wp2_with fail
  refine (hk.out _).mono ?_
  rintro e wk ⟨rfl, rfl⟩
  go_wp2_with fail
  refine (he.out _).mono ?_
  rintro e we ⟨rfl, rfl⟩
  go_wp2_with fail
  refine (hv.out _).mono ?_
  rintro e wv ⟨rfl, rfl⟩
  go_wp2_with fail
  go_ret
  exact ⟨rfl, bW⟩

set_option maxRecDepth 100000 in
set_option maxHeartbeats 4000000 in
theorem ref40_bare_nalk (s : Stp) (w : World) : Calls Tryd.prog 26 #[.agg (stpC s), .string ⟨([.n, .a, .l, .k].map codeR).toArray⟩] w fun e w' => e = .returned (.bool (bareB s [.n, .a, .l, .k])) ∧ Below w.heap.size w w' := by
  obtain ⟨W, hW⟩ : ∃ W, w.alloc (.cells (stpC s) 26) = W := ⟨_, rfl⟩
  have bW : Below w.heap.size w W := by rw [← hW]; exact (Below.refl _ _).alloc (Nat.le_refl _) _
  have BS : Blk W w.heap.size 26 (stpC s) := by rw [← hW]; exact Blk.new _ _ _
  have s1 : W.cell? ⟨w.heap.size, 1, none⟩ = some (.int .i64 s.n) := BS.cell 1
  have s2 : W.cell? ⟨w.heap.size, 2, none⟩ = some (.int .i64 s.ticks) := BS.cell 2
  have s8 : W.cell? ⟨w.heap.size, 8, none⟩ = some (.int .i64 s.ctx) := BS.cell 8
  have s3 : W.cell? ⟨w.heap.size, 3, none⟩ = some (.int .i64 s.tab) := BS.cell 3
  have s4 : W.cell? ⟨w.heap.size, 4, none⟩ = some (.int .i64 s.lev) := BS.cell 4
  have s5 : W.cell? ⟨w.heap.size, 5, none⟩ = some (.string s.key) := BS.cell 5
  have s6 : W.cell? ⟨w.heap.size, 6, none⟩ = some (.string s.en) := BS.cell 6
  have s7 : W.cell? ⟨w.heap.size, 7, none⟩ = some (.string s.val) := BS.cell 7
  obtain ⟨P, hP⟩ : ∃ P : ByteArray, ⟨([.n, .a, .l, .k].map codeR).toArray⟩ = P := ⟨_, rfl⟩
  have hn := Lib.hid (fun w => ref40_has [.n, .a, .l, .k] .n w (by decide))
  rw [hP, show ((codeR .n).toNat : Int) = 78 from rfl, show ([.n, .a, .l, .k] : List Pt).contains .n = true from rfl] at hn
  have ht := Lib.hid (fun w => ref40_has [.n, .a, .l, .k] .t w (by decide))
  rw [hP, show ((codeR .t).toNat : Int) = 83 from rfl, show ([.n, .a, .l, .k] : List Pt).contains .t = false from rfl] at ht
  have hc := Lib.hid (fun w => ref40_has [.n, .a, .l, .k] .c w (by decide))
  rw [hP, show ((codeR .c).toNat : Int) = 67 from rfl, show ([.n, .a, .l, .k] : List Pt).contains .c = false from rfl] at hc
  have ha := Lib.hid (fun w => ref40_has [.n, .a, .l, .k] .a w (by decide))
  rw [hP, show ((codeR .a).toNat : Int) = 84 from rfl, show ([.n, .a, .l, .k] : List Pt).contains .a = true from rfl] at ha
  have hl := Lib.hid (fun w => ref40_has [.n, .a, .l, .k] .l w (by decide))
  rw [hP, show ((codeR .l).toNat : Int) = 76 from rfl, show ([.n, .a, .l, .k] : List Pt).contains .l = true from rfl] at hl
  have hk := Lib.hid (fun w => ref40_has [.n, .a, .l, .k] .k w (by decide))
  rw [hP, show ((codeR .k).toNat : Int) = 75 from rfl, show ([.n, .a, .l, .k] : List Pt).contains .k = true from rfl] at hk
  have he := Lib.hid (fun w => ref40_has [.n, .a, .l, .k] .e w (by decide))
  rw [hP, show ((codeR .e).toNat : Int) = 69 from rfl, show ([.n, .a, .l, .k] : List Pt).contains .e = false from rfl] at he
  have hv := Lib.hid (fun w => ref40_has [.n, .a, .l, .k] .v w (by decide))
  rw [hP, show ((codeR .v).toNat : Int) = 86 from rfl, show ([.n, .a, .l, .k] : List Pt).contains .v = false from rfl] at hv
  rw [hP]
  clear hP
  unfold stpC at hW ⊢
  by_cases et : (s.ticks == 0) = false
  · have F : Hid (bareB s [.n, .a, .l, .k] = false) := Lib.hid (by simp [bareB, et])
    rw [F.out]
    go_enter Tryd.func26, Tryd.ntmps26
    simp only [List.append_eq, List.cons_append, List.nil_append]
    go_wp2_with fail
    clear hW
    refine (hn.out _).mono ?_
    rintro e wn ⟨rfl, rfl⟩
    go_wp2_with fail
    refine (ht.out _).mono ?_
    rintro e wt ⟨rfl, rfl⟩
    go_wp2_with fail
    go_ret
    exact ⟨rfl, bW⟩
  replace et : (s.ticks == 0) = true := by simpa using et
  by_cases ec : (s.ctx == (-1)) = false
  · have F : Hid (bareB s [.n, .a, .l, .k] = false) := Lib.hid (by simp [bareB, et, ec])
    rw [F.out]
    go_enter Tryd.func26, Tryd.ntmps26
    simp only [List.append_eq, List.cons_append, List.nil_append]
    go_wp2_with fail
    clear hW
    refine (hn.out _).mono ?_
    rintro e wn ⟨rfl, rfl⟩
    go_wp2_with fail
    refine (ht.out _).mono ?_
    rintro e wt ⟨rfl, rfl⟩
    go_wp2_with fail
    refine (hc.out _).mono ?_
    rintro e wc ⟨rfl, rfl⟩
    go_wp2_with fail
    go_ret
    exact ⟨rfl, bW⟩
  replace ec : (s.ctx == (-1)) = true := by simpa using ec
  by_cases ee : (s.en.toList == []) = false
  · have F : Hid (bareB s [.n, .a, .l, .k] = false) := Lib.hid (by simp [bareB, et, ec, ee])
    rw [F.out]
    have ee2 : (s.en.toList == (⟨#[]⟩ : ByteArray).toList) = false := text_ne ee
    go_enter Tryd.func26, Tryd.ntmps26
    simp only [List.append_eq, List.cons_append, List.nil_append]
    go_wp2_with fail
    clear hW
    refine (hn.out _).mono ?_
    rintro e wn ⟨rfl, rfl⟩
    go_wp2_with fail
    refine (ht.out _).mono ?_
    rintro e wt ⟨rfl, rfl⟩
    go_wp2_with fail
    refine (hc.out _).mono ?_
    rintro e wc ⟨rfl, rfl⟩
    go_wp2_with fail
    refine (ha.out _).mono ?_
    rintro e wa ⟨rfl, rfl⟩
    go_wp2_with fail
    refine (hl.out _).mono ?_
    rintro e wl ⟨rfl, rfl⟩
    go_wp2_with fail
    refine (hk.out _).mono ?_
    rintro e wk ⟨rfl, rfl⟩
    go_wp2_with fail
    refine (he.out _).mono ?_
    rintro e we ⟨rfl, rfl⟩
    go_wp2_with fail
    go_ret
    exact ⟨rfl, bW⟩
  replace ee : (s.en.toList == []) = true := by simpa using ee
  have ee2 : (s.en.toList == (⟨#[]⟩ : ByteArray).toList) = true := by rw [toList_nil]; exact ee
  by_cases ev : (s.val.toList == []) = false
  · have F : Hid (bareB s [.n, .a, .l, .k] = false) := Lib.hid (by simp [bareB, et, ec, ee, ev])
    rw [F.out]
    have ev2 : (s.val.toList == (⟨#[]⟩ : ByteArray).toList) = false := text_ne ev
    go_enter Tryd.func26, Tryd.ntmps26
    simp only [List.append_eq, List.cons_append, List.nil_append]
    go_wp2_with fail
    clear hW
    refine (hn.out _).mono ?_
    rintro e wn ⟨rfl, rfl⟩
    go_wp2_with fail
    refine (ht.out _).mono ?_
    rintro e wt ⟨rfl, rfl⟩
    go_wp2_with fail
    refine (hc.out _).mono ?_
    rintro e wc ⟨rfl, rfl⟩
    go_wp2_with fail
    refine (ha.out _).mono ?_
    rintro e wa ⟨rfl, rfl⟩
    go_wp2_with fail
    refine (hl.out _).mono ?_
    rintro e wl ⟨rfl, rfl⟩
    go_wp2_with fail
    refine (hk.out _).mono ?_
    rintro e wk ⟨rfl, rfl⟩
    go_wp2_with fail
    refine (he.out _).mono ?_
    rintro e we ⟨rfl, rfl⟩
    go_wp2_with fail
    refine (hv.out _).mono ?_
    rintro e wv ⟨rfl, rfl⟩
    go_wp2_with fail
    go_ret
    exact ⟨rfl, bW⟩
  replace ev : (s.val.toList == []) = true := by simpa using ev
  have ev2 : (s.val.toList == (⟨#[]⟩ : ByteArray).toList) = true := by rw [toList_nil]; exact ev
  have F : Hid (bareB s [.n, .a, .l, .k] = true) := Lib.hid (by simp [bareB, et, ec, ee, ev])
  rw [F.out]
  go_enter Tryd.func26, Tryd.ntmps26
  simp only [List.append_eq, List.cons_append, List.nil_append]
  go_wp2_with fail
  clear hW
  refine (hn.out _).mono ?_
  rintro e wn ⟨rfl, rfl⟩
  go_wp2_with fail
  refine (ht.out _).mono ?_
  rintro e wt ⟨rfl, rfl⟩
  go_wp2_with fail
  refine (hc.out _).mono ?_
  rintro e wc ⟨rfl, rfl⟩
  go_wp2_with fail
  refine (ha.out _).mono ?_
  rintro e wa ⟨rfl, rfl⟩
  go_wp2_with fail
  refine (hl.out _).mono ?_
  rintro e wl ⟨rfl, rfl⟩
  go_wp2_with fail
  refine (hk.out _).mono ?_
  rintro e wk ⟨rfl, rfl⟩
  go_wp2_with fail
  refine (he.out _).mono ?_
  rintro e we ⟨rfl, rfl⟩
  go_wp2_with fail
  refine (hv.out _).mono ?_
  rintro e wv ⟨rfl, rfl⟩
  go_wp2_with fail
  go_ret
  exact ⟨rfl, bW⟩

set_option maxRecDepth 100000 in
set_option maxHeartbeats 4000000 in
theorem ref40_bare_n (s : Stp) (w : World) : Calls Tryd.prog 26 #[.agg (stpC s), .string ⟨([.n].map codeR).toArray⟩] w fun e w' => e = .returned (.bool (bareB s [.n])) ∧ Below w.heap.size w w' := by
  obtain ⟨W, hW⟩ : ∃ W, w.alloc (.cells (stpC s) 26) = W := ⟨_, rfl⟩
  have bW : Below w.heap.size w W := by rw [← hW]; exact (Below.refl _ _).alloc (Nat.le_refl _) _
  have BS : Blk W w.heap.size 26 (stpC s) := by rw [← hW]; exact Blk.new _ _ _
  have s1 : W.cell? ⟨w.heap.size, 1, none⟩ = some (.int .i64 s.n) := BS.cell 1
  have s2 : W.cell? ⟨w.heap.size, 2, none⟩ = some (.int .i64 s.ticks) := BS.cell 2
  have s8 : W.cell? ⟨w.heap.size, 8, none⟩ = some (.int .i64 s.ctx) := BS.cell 8
  have s3 : W.cell? ⟨w.heap.size, 3, none⟩ = some (.int .i64 s.tab) := BS.cell 3
  have s4 : W.cell? ⟨w.heap.size, 4, none⟩ = some (.int .i64 s.lev) := BS.cell 4
  have s5 : W.cell? ⟨w.heap.size, 5, none⟩ = some (.string s.key) := BS.cell 5
  have s6 : W.cell? ⟨w.heap.size, 6, none⟩ = some (.string s.en) := BS.cell 6
  have s7 : W.cell? ⟨w.heap.size, 7, none⟩ = some (.string s.val) := BS.cell 7
  obtain ⟨P, hP⟩ : ∃ P : ByteArray, ⟨([.n].map codeR).toArray⟩ = P := ⟨_, rfl⟩
  have hn := Lib.hid (fun w => ref40_has [.n] .n w (by decide))
  rw [hP, show ((codeR .n).toNat : Int) = 78 from rfl, show ([.n] : List Pt).contains .n = true from rfl] at hn
  have ht := Lib.hid (fun w => ref40_has [.n] .t w (by decide))
  rw [hP, show ((codeR .t).toNat : Int) = 83 from rfl, show ([.n] : List Pt).contains .t = false from rfl] at ht
  have hc := Lib.hid (fun w => ref40_has [.n] .c w (by decide))
  rw [hP, show ((codeR .c).toNat : Int) = 67 from rfl, show ([.n] : List Pt).contains .c = false from rfl] at hc
  have ha := Lib.hid (fun w => ref40_has [.n] .a w (by decide))
  rw [hP, show ((codeR .a).toNat : Int) = 84 from rfl, show ([.n] : List Pt).contains .a = false from rfl] at ha
  have hl := Lib.hid (fun w => ref40_has [.n] .l w (by decide))
  rw [hP, show ((codeR .l).toNat : Int) = 76 from rfl, show ([.n] : List Pt).contains .l = false from rfl] at hl
  have hk := Lib.hid (fun w => ref40_has [.n] .k w (by decide))
  rw [hP, show ((codeR .k).toNat : Int) = 75 from rfl, show ([.n] : List Pt).contains .k = false from rfl] at hk
  have he := Lib.hid (fun w => ref40_has [.n] .e w (by decide))
  rw [hP, show ((codeR .e).toNat : Int) = 69 from rfl, show ([.n] : List Pt).contains .e = false from rfl] at he
  have hv := Lib.hid (fun w => ref40_has [.n] .v w (by decide))
  rw [hP, show ((codeR .v).toNat : Int) = 86 from rfl, show ([.n] : List Pt).contains .v = false from rfl] at hv
  rw [hP]
  clear hP
  unfold stpC at hW ⊢
  by_cases et : (s.ticks == 0) = false
  · have F : Hid (bareB s [.n] = false) := Lib.hid (by simp [bareB, et])
    rw [F.out]
    go_enter Tryd.func26, Tryd.ntmps26
    simp only [List.append_eq, List.cons_append, List.nil_append]
    go_wp2_with fail
    clear hW
    refine (hn.out _).mono ?_
    rintro e wn ⟨rfl, rfl⟩
    go_wp2_with fail
    refine (ht.out _).mono ?_
    rintro e wt ⟨rfl, rfl⟩
    go_wp2_with fail
    go_ret
    exact ⟨rfl, bW⟩
  replace et : (s.ticks == 0) = true := by simpa using et
  by_cases ec : (s.ctx == (-1)) = false
  · have F : Hid (bareB s [.n] = false) := Lib.hid (by simp [bareB, et, ec])
    rw [F.out]
    go_enter Tryd.func26, Tryd.ntmps26
    simp only [List.append_eq, List.cons_append, List.nil_append]
    go_wp2_with fail
    clear hW
    refine (hn.out _).mono ?_
    rintro e wn ⟨rfl, rfl⟩
    go_wp2_with fail
    refine (ht.out _).mono ?_
    rintro e wt ⟨rfl, rfl⟩
    go_wp2_with fail
    refine (hc.out _).mono ?_
    rintro e wc ⟨rfl, rfl⟩
    go_wp2_with fail
    go_ret
    exact ⟨rfl, bW⟩
  replace ec : (s.ctx == (-1)) = true := by simpa using ec
  by_cases ea : (s.tab == 0) = false
  · have F : Hid (bareB s [.n] = false) := Lib.hid (by simp [bareB, et, ec, ea])
    rw [F.out]
    go_enter Tryd.func26, Tryd.ntmps26
    simp only [List.append_eq, List.cons_append, List.nil_append]
    go_wp2_with fail
    clear hW
    refine (hn.out _).mono ?_
    rintro e wn ⟨rfl, rfl⟩
    go_wp2_with fail
    refine (ht.out _).mono ?_
    rintro e wt ⟨rfl, rfl⟩
    go_wp2_with fail
    refine (hc.out _).mono ?_
    rintro e wc ⟨rfl, rfl⟩
    go_wp2_with fail
    refine (ha.out _).mono ?_
    rintro e wa ⟨rfl, rfl⟩
    go_wp2_with fail
    go_ret
    exact ⟨rfl, bW⟩
  replace ea : (s.tab == 0) = true := by simpa using ea
  by_cases el : (s.lev == 0) = false
  · have F : Hid (bareB s [.n] = false) := Lib.hid (by simp [bareB, et, ec, ea, el])
    rw [F.out]
    go_enter Tryd.func26, Tryd.ntmps26
    simp only [List.append_eq, List.cons_append, List.nil_append]
    go_wp2_with fail
    clear hW
    refine (hn.out _).mono ?_
    rintro e wn ⟨rfl, rfl⟩
    go_wp2_with fail
    refine (ht.out _).mono ?_
    rintro e wt ⟨rfl, rfl⟩
    go_wp2_with fail
    refine (hc.out _).mono ?_
    rintro e wc ⟨rfl, rfl⟩
    go_wp2_with fail
    refine (ha.out _).mono ?_
    rintro e wa ⟨rfl, rfl⟩
    go_wp2_with fail
    refine (hl.out _).mono ?_
    rintro e wl ⟨rfl, rfl⟩
    go_wp2_with fail
    go_ret
    exact ⟨rfl, bW⟩
  replace el : (s.lev == 0) = true := by simpa using el
  by_cases ek : (s.key.toList == []) = false
  · have F : Hid (bareB s [.n] = false) := Lib.hid (by simp [bareB, et, ec, ea, el, ek])
    rw [F.out]
    have ek2 : (s.key.toList == (⟨#[]⟩ : ByteArray).toList) = false := text_ne ek
    go_enter Tryd.func26, Tryd.ntmps26
    simp only [List.append_eq, List.cons_append, List.nil_append]
    go_wp2_with fail
    clear hW
    refine (hn.out _).mono ?_
    rintro e wn ⟨rfl, rfl⟩
    go_wp2_with fail
    refine (ht.out _).mono ?_
    rintro e wt ⟨rfl, rfl⟩
    go_wp2_with fail
    refine (hc.out _).mono ?_
    rintro e wc ⟨rfl, rfl⟩
    go_wp2_with fail
    refine (ha.out _).mono ?_
    rintro e wa ⟨rfl, rfl⟩
    go_wp2_with fail
    refine (hl.out _).mono ?_
    rintro e wl ⟨rfl, rfl⟩
    go_wp2_with fail
    refine (hk.out _).mono ?_
    rintro e wk ⟨rfl, rfl⟩
    go_wp2_with fail
    go_ret
    exact ⟨rfl, bW⟩
  replace ek : (s.key.toList == []) = true := by simpa using ek
  have ek2 : (s.key.toList == (⟨#[]⟩ : ByteArray).toList) = true := by rw [toList_nil]; exact ek
  by_cases ee : (s.en.toList == []) = false
  · have F : Hid (bareB s [.n] = false) := Lib.hid (by simp [bareB, et, ec, ea, el, ek, ee])
    rw [F.out]
    have ee2 : (s.en.toList == (⟨#[]⟩ : ByteArray).toList) = false := text_ne ee
    go_enter Tryd.func26, Tryd.ntmps26
    simp only [List.append_eq, List.cons_append, List.nil_append]
    go_wp2_with fail
    clear hW
    refine (hn.out _).mono ?_
    rintro e wn ⟨rfl, rfl⟩
    go_wp2_with fail
    refine (ht.out _).mono ?_
    rintro e wt ⟨rfl, rfl⟩
    go_wp2_with fail
    refine (hc.out _).mono ?_
    rintro e wc ⟨rfl, rfl⟩
    go_wp2_with fail
    refine (ha.out _).mono ?_
    rintro e wa ⟨rfl, rfl⟩
    go_wp2_with fail
    refine (hl.out _).mono ?_
    rintro e wl ⟨rfl, rfl⟩
    go_wp2_with fail
    refine (hk.out _).mono ?_
    rintro e wk ⟨rfl, rfl⟩
    go_wp2_with fail
    refine (he.out _).mono ?_
    rintro e we ⟨rfl, rfl⟩
    go_wp2_with fail
    go_ret
    exact ⟨rfl, bW⟩
  replace ee : (s.en.toList == []) = true := by simpa using ee
  have ee2 : (s.en.toList == (⟨#[]⟩ : ByteArray).toList) = true := by rw [toList_nil]; exact ee
  by_cases ev : (s.val.toList == []) = false
  · have F : Hid (bareB s [.n] = false) := Lib.hid (by simp [bareB, et, ec, ea, el, ek, ee, ev])
    rw [F.out]
    have ev2 : (s.val.toList == (⟨#[]⟩ : ByteArray).toList) = false := text_ne ev
    go_enter Tryd.func26, Tryd.ntmps26
    simp only [List.append_eq, List.cons_append, List.nil_append]
    go_wp2_with fail
    clear hW
    refine (hn.out _).mono ?_
    rintro e wn ⟨rfl, rfl⟩
    go_wp2_with fail
    refine (ht.out _).mono ?_
    rintro e wt ⟨rfl, rfl⟩
    go_wp2_with fail
    refine (hc.out _).mono ?_
    rintro e wc ⟨rfl, rfl⟩
    go_wp2_with fail
    refine (ha.out _).mono ?_
    rintro e wa ⟨rfl, rfl⟩
    go_wp2_with fail
    refine (hl.out _).mono ?_
    rintro e wl ⟨rfl, rfl⟩
    go_wp2_with fail
    refine (hk.out _).mono ?_
    rintro e wk ⟨rfl, rfl⟩
    go_wp2_with fail
    refine (he.out _).mono ?_
    rintro e we ⟨rfl, rfl⟩
    go_wp2_with fail
    refine (hv.out _).mono ?_
    rintro e wv ⟨rfl, rfl⟩
    go_wp2_with fail
    go_ret
    exact ⟨rfl, bW⟩
  replace ev : (s.val.toList == []) = true := by simpa using ev
  have ev2 : (s.val.toList == (⟨#[]⟩ : ByteArray).toList) = true := by rw [toList_nil]; exact ev
  have F : Hid (bareB s [.n] = true) := Lib.hid (by simp [bareB, et, ec, ea, el, ek, ee, ev])
  rw [F.out]
  go_enter Tryd.func26, Tryd.ntmps26
  simp only [List.append_eq, List.cons_append, List.nil_append]
  go_wp2_with fail
  clear hW
  refine (hn.out _).mono ?_
  rintro e wn ⟨rfl, rfl⟩
  go_wp2_with fail
  refine (ht.out _).mono ?_
  rintro e wt ⟨rfl, rfl⟩
  go_wp2_with fail
  refine (hc.out _).mono ?_
  rintro e wc ⟨rfl, rfl⟩
  go_wp2_with fail
  refine (ha.out _).mono ?_
  rintro e wa ⟨rfl, rfl⟩
  go_wp2_with fail
  refine (hl.out _).mono ?_
  rintro e wl ⟨rfl, rfl⟩
  go_wp2_with fail
  refine (hk.out _).mono ?_
  rintro e wk ⟨rfl, rfl⟩
  go_wp2_with fail
  refine (he.out _).mono ?_
  rintro e we ⟨rfl, rfl⟩
  go_wp2_with fail
  refine (hv.out _).mono ?_
  rintro e wv ⟨rfl, rfl⟩
  go_wp2_with fail
  go_ret
  exact ⟨rfl, bW⟩

set_option maxRecDepth 100000 in
set_option maxHeartbeats 4000000 in
theorem ref40_bare_nt (s : Stp) (w : World) : Calls Tryd.prog 26 #[.agg (stpC s), .string ⟨([.n, .t].map codeR).toArray⟩] w fun e w' => e = .returned (.bool (bareB s [.n, .t])) ∧ Below w.heap.size w w' := by
  obtain ⟨W, hW⟩ : ∃ W, w.alloc (.cells (stpC s) 26) = W := ⟨_, rfl⟩
  have bW : Below w.heap.size w W := by rw [← hW]; exact (Below.refl _ _).alloc (Nat.le_refl _) _
  have BS : Blk W w.heap.size 26 (stpC s) := by rw [← hW]; exact Blk.new _ _ _
  have s1 : W.cell? ⟨w.heap.size, 1, none⟩ = some (.int .i64 s.n) := BS.cell 1
  have s2 : W.cell? ⟨w.heap.size, 2, none⟩ = some (.int .i64 s.ticks) := BS.cell 2
  have s8 : W.cell? ⟨w.heap.size, 8, none⟩ = some (.int .i64 s.ctx) := BS.cell 8
  have s3 : W.cell? ⟨w.heap.size, 3, none⟩ = some (.int .i64 s.tab) := BS.cell 3
  have s4 : W.cell? ⟨w.heap.size, 4, none⟩ = some (.int .i64 s.lev) := BS.cell 4
  have s5 : W.cell? ⟨w.heap.size, 5, none⟩ = some (.string s.key) := BS.cell 5
  have s6 : W.cell? ⟨w.heap.size, 6, none⟩ = some (.string s.en) := BS.cell 6
  have s7 : W.cell? ⟨w.heap.size, 7, none⟩ = some (.string s.val) := BS.cell 7
  obtain ⟨P, hP⟩ : ∃ P : ByteArray, ⟨([.n, .t].map codeR).toArray⟩ = P := ⟨_, rfl⟩
  have hn := Lib.hid (fun w => ref40_has [.n, .t] .n w (by decide))
  rw [hP, show ((codeR .n).toNat : Int) = 78 from rfl, show ([.n, .t] : List Pt).contains .n = true from rfl] at hn
  have ht := Lib.hid (fun w => ref40_has [.n, .t] .t w (by decide))
  rw [hP, show ((codeR .t).toNat : Int) = 83 from rfl, show ([.n, .t] : List Pt).contains .t = true from rfl] at ht
  have hc := Lib.hid (fun w => ref40_has [.n, .t] .c w (by decide))
  rw [hP, show ((codeR .c).toNat : Int) = 67 from rfl, show ([.n, .t] : List Pt).contains .c = false from rfl] at hc
  have ha := Lib.hid (fun w => ref40_has [.n, .t] .a w (by decide))
  rw [hP, show ((codeR .a).toNat : Int) = 84 from rfl, show ([.n, .t] : List Pt).contains .a = false from rfl] at ha
  have hl := Lib.hid (fun w => ref40_has [.n, .t] .l w (by decide))
  rw [hP, show ((codeR .l).toNat : Int) = 76 from rfl, show ([.n, .t] : List Pt).contains .l = false from rfl] at hl
  have hk := Lib.hid (fun w => ref40_has [.n, .t] .k w (by decide))
  rw [hP, show ((codeR .k).toNat : Int) = 75 from rfl, show ([.n, .t] : List Pt).contains .k = false from rfl] at hk
  have he := Lib.hid (fun w => ref40_has [.n, .t] .e w (by decide))
  rw [hP, show ((codeR .e).toNat : Int) = 69 from rfl, show ([.n, .t] : List Pt).contains .e = false from rfl] at he
  have hv := Lib.hid (fun w => ref40_has [.n, .t] .v w (by decide))
  rw [hP, show ((codeR .v).toNat : Int) = 86 from rfl, show ([.n, .t] : List Pt).contains .v = false from rfl] at hv
  rw [hP]
  clear hP
  unfold stpC at hW ⊢
  by_cases ec : (s.ctx == (-1)) = false
  · have F : Hid (bareB s [.n, .t] = false) := Lib.hid (by simp [bareB, ec])
    rw [F.out]
    go_enter Tryd.func26, Tryd.ntmps26
    simp only [List.append_eq, List.cons_append, List.nil_append]
    go_wp2_with fail
    clear hW
    refine (hn.out _).mono ?_
    rintro e wn ⟨rfl, rfl⟩
    go_wp2_with fail
    refine (ht.out _).mono ?_
    rintro e wt ⟨rfl, rfl⟩
    go_wp2_with fail
    refine (hc.out _).mono ?_
    rintro e wc ⟨rfl, rfl⟩
    go_wp2_with fail
    go_ret
    exact ⟨rfl, bW⟩
  replace ec : (s.ctx == (-1)) = true := by simpa using ec
  by_cases ea : (s.tab == 0) = false
  · have F : Hid (bareB s [.n, .t] = false) := Lib.hid (by simp [bareB, ec, ea])
    rw [F.out]
    go_enter Tryd.func26, Tryd.ntmps26
    simp only [List.append_eq, List.cons_append, List.nil_append]
    go_wp2_with fail
    clear hW
    refine (hn.out _).mono ?_
    rintro e wn ⟨rfl, rfl⟩
    go_wp2_with fail
    refine (ht.out _).mono ?_
    rintro e wt ⟨rfl, rfl⟩
    go_wp2_with fail
    refine (hc.out _).mono ?_
    rintro e wc ⟨rfl, rfl⟩
    go_wp2_with fail
    refine (ha.out _).mono ?_
    rintro e wa ⟨rfl, rfl⟩
    go_wp2_with fail
    go_ret
    exact ⟨rfl, bW⟩
  replace ea : (s.tab == 0) = true := by simpa using ea
  by_cases el : (s.lev == 0) = false
  · have F : Hid (bareB s [.n, .t] = false) := Lib.hid (by simp [bareB, ec, ea, el])
    rw [F.out]
    go_enter Tryd.func26, Tryd.ntmps26
    simp only [List.append_eq, List.cons_append, List.nil_append]
    go_wp2_with fail
    clear hW
    refine (hn.out _).mono ?_
    rintro e wn ⟨rfl, rfl⟩
    go_wp2_with fail
    refine (ht.out _).mono ?_
    rintro e wt ⟨rfl, rfl⟩
    go_wp2_with fail
    refine (hc.out _).mono ?_
    rintro e wc ⟨rfl, rfl⟩
    go_wp2_with fail
    refine (ha.out _).mono ?_
    rintro e wa ⟨rfl, rfl⟩
    go_wp2_with fail
    refine (hl.out _).mono ?_
    rintro e wl ⟨rfl, rfl⟩
    go_wp2_with fail
    go_ret
    exact ⟨rfl, bW⟩
  replace el : (s.lev == 0) = true := by simpa using el
  by_cases ek : (s.key.toList == []) = false
  · have F : Hid (bareB s [.n, .t] = false) := Lib.hid (by simp [bareB, ec, ea, el, ek])
    rw [F.out]
    have ek2 : (s.key.toList == (⟨#[]⟩ : ByteArray).toList) = false := text_ne ek
    go_enter Tryd.func26, Tryd.ntmps26
    simp only [List.append_eq, List.cons_append, List.nil_append]
    go_wp2_with fail
    clear hW
    refine (hn.out _).mono ?_
    rintro e wn ⟨rfl, rfl⟩
    go_wp2_with fail
    refine (ht.out _).mono ?_
    rintro e wt ⟨rfl, rfl⟩
    go_wp2_with fail
    refine (hc.out _).mono ?_
    rintro e wc ⟨rfl, rfl⟩
    go_wp2_with fail
    refine (ha.out _).mono ?_
    rintro e wa ⟨rfl, rfl⟩
    go_wp2_with fail
    refine (hl.out _).mono ?_
    rintro e wl ⟨rfl, rfl⟩
    go_wp2_with fail
    refine (hk.out _).mono ?_
    rintro e wk ⟨rfl, rfl⟩
    go_wp2_with fail
    go_ret
    exact ⟨rfl, bW⟩
  replace ek : (s.key.toList == []) = true := by simpa using ek
  have ek2 : (s.key.toList == (⟨#[]⟩ : ByteArray).toList) = true := by rw [toList_nil]; exact ek
  by_cases ee : (s.en.toList == []) = false
  · have F : Hid (bareB s [.n, .t] = false) := Lib.hid (by simp [bareB, ec, ea, el, ek, ee])
    rw [F.out]
    have ee2 : (s.en.toList == (⟨#[]⟩ : ByteArray).toList) = false := text_ne ee
    go_enter Tryd.func26, Tryd.ntmps26
    simp only [List.append_eq, List.cons_append, List.nil_append]
    go_wp2_with fail
    clear hW
    refine (hn.out _).mono ?_
    rintro e wn ⟨rfl, rfl⟩
    go_wp2_with fail
    refine (ht.out _).mono ?_
    rintro e wt ⟨rfl, rfl⟩
    go_wp2_with fail
    refine (hc.out _).mono ?_
    rintro e wc ⟨rfl, rfl⟩
    go_wp2_with fail
    refine (ha.out _).mono ?_
    rintro e wa ⟨rfl, rfl⟩
    go_wp2_with fail
    refine (hl.out _).mono ?_
    rintro e wl ⟨rfl, rfl⟩
    go_wp2_with fail
    refine (hk.out _).mono ?_
    rintro e wk ⟨rfl, rfl⟩
    go_wp2_with fail
    refine (he.out _).mono ?_
    rintro e we ⟨rfl, rfl⟩
    go_wp2_with fail
    go_ret
    exact ⟨rfl, bW⟩
  replace ee : (s.en.toList == []) = true := by simpa using ee
  have ee2 : (s.en.toList == (⟨#[]⟩ : ByteArray).toList) = true := by rw [toList_nil]; exact ee
  by_cases ev : (s.val.toList == []) = false
  · have F : Hid (bareB s [.n, .t] = false) := Lib.hid (by simp [bareB, ec, ea, el, ek, ee, ev])
    rw [F.out]
    have ev2 : (s.val.toList == (⟨#[]⟩ : ByteArray).toList) = false := text_ne ev
    go_enter Tryd.func26, Tryd.ntmps26
    simp only [List.append_eq, List.cons_append, List.nil_append]
    go_wp2_with fail
    clear hW
    refine (hn.out _).mono ?_
    rintro e wn ⟨rfl, rfl⟩
    go_wp2_with fail
    refine (ht.out _).mono ?_
    rintro e wt ⟨rfl, rfl⟩
    go_wp2_with fail
    refine (hc.out _).mono ?_
    rintro e wc ⟨rfl, rfl⟩
    go_wp2_with fail
    refine (ha.out _).mono ?_
    rintro e wa ⟨rfl, rfl⟩
    go_wp2_with fail
    refine (hl.out _).mono ?_
    rintro e wl ⟨rfl, rfl⟩
    go_wp2_with fail
    refine (hk.out _).mono ?_
    rintro e wk ⟨rfl, rfl⟩
    go_wp2_with fail
    refine (he.out _).mono ?_
    rintro e we ⟨rfl, rfl⟩
    go_wp2_with fail
    refine (hv.out _).mono ?_
    rintro e wv ⟨rfl, rfl⟩
    go_wp2_with fail
    go_ret
    exact ⟨rfl, bW⟩
  replace ev : (s.val.toList == []) = true := by simpa using ev
  have ev2 : (s.val.toList == (⟨#[]⟩ : ByteArray).toList) = true := by rw [toList_nil]; exact ev
  have F : Hid (bareB s [.n, .t] = true) := Lib.hid (by simp [bareB, ec, ea, el, ek, ee, ev])
  rw [F.out]
  go_enter Tryd.func26, Tryd.ntmps26
  simp only [List.append_eq, List.cons_append, List.nil_append]
  go_wp2_with fail
  clear hW
  refine (hn.out _).mono ?_
  rintro e wn ⟨rfl, rfl⟩
  go_wp2_with fail
  refine (ht.out _).mono ?_
  rintro e wt ⟨rfl, rfl⟩
  go_wp2_with fail
  refine (hc.out _).mono ?_
  rintro e wc ⟨rfl, rfl⟩
  go_wp2_with fail
  refine (ha.out _).mono ?_
  rintro e wa ⟨rfl, rfl⟩
  go_wp2_with fail
  refine (hl.out _).mono ?_
  rintro e wl ⟨rfl, rfl⟩
  go_wp2_with fail
  refine (hk.out _).mono ?_
  rintro e wk ⟨rfl, rfl⟩
  go_wp2_with fail
  refine (he.out _).mono ?_
  rintro e we ⟨rfl, rfl⟩
  go_wp2_with fail
  refine (hv.out _).mono ?_
  rintro e wv ⟨rfl, rfl⟩
  go_wp2_with fail
  go_ret
  exact ⟨rfl, bW⟩

theorem ref40_bare (s : Stp) (k : Int) (hk : 1 ≤ k ∧ k ≤ 17) (w : World) : Calls Tryd.prog 26 #[.agg (stpC s), .string ⟨((formP k).2.map codeR).toArray⟩] w fun e w' => e = .returned (.bool (bareB s (formP k).2)) ∧ Below w.heap.size w w' := by
  have h : (formP k).2 = [.n, .a, .l, .k, .v, .c] ∨ (formP k).2 = [.n, .a, .l, .k, .v, .t] ∨ (formP k).2 = [.n, .a, .l, .k, .c] ∨ (formP k).2 = [.n, .a, .l, .k, .e] ∨ (formP k).2 = [.n, .a, .l, .k] ∨ (formP k).2 = [.n] ∨ (formP k).2 = [.n, .t] := by
    have hn : ∃ n : Nat, k = (n : Int) + 1 ∧ n < 17 := ⟨(k - 1).toNat, by omega, by omega⟩
    obtain ⟨n, rfl, hn⟩ := hn
    have : ∀ n : Fin 17, (fun l : List Pt => l = [.n, .a, .l, .k, .v, .c] ∨ l = [.n, .a, .l, .k, .v, .t] ∨ l = [.n, .a, .l, .k, .c] ∨ l = [.n, .a, .l, .k, .e] ∨ l = [.n, .a, .l, .k] ∨ l = [.n] ∨ l = [.n, .t]) (formP ((n : Nat) + 1)).2 := by decide
    exact this ⟨n, hn⟩
  rcases h with h | h | h | h | h | h | h <;> rw [h]

  · exact ref40_bare_nalkvc s w
  · exact ref40_bare_nalkvt s w
  · exact ref40_bare_nalkc s w
  · exact ref40_bare_nalke s w
  · exact ref40_bare_nalk s w
  · exact ref40_bare_n s w
  · exact ref40_bare_nt s w
end Go.Proofs.YtimmfcbpdnlfjaaDoor
