/- Contract of the reference's take. -/
import Derived.Test.YtimmfcbpdnlfjaaDoorStpF
import Derived.Test.YtimmfcbpdnlfjaaDoorRnR
namespace Go.Proofs.YtimmfcbpdnlfjaaDoor
open Go.RowKit Go.Sort
set_option linter.unusedVariables false
set_option linter.unusedSimpArgs false

def refT (s : ByteArray) : ByteArray := match refP ((bl s).drop 1) with | some o => ⟨o.toArray⟩ | none => ⟨#[]⟩
def refB (s : ByteArray) : Bool := match refP ((bl s).drop 1) with | some o => decide (quoteP ⟨o.toArray⟩ = bl s) | none => false
theorem refV_eq (s : ByteArray) : refV s = .tuple #[.string (refT s), .bool (refB s)] := by
  unfold refV refT refB
  cases refP ((bl s).drop 1) <;> rfl
theorem some_cell {w : World} {p : Addr} {o : Option Value} {v : Value} (h : w.cell? p = o) (e : o = some v) : w.cell? p = some v := h.trans e
/-- A part read by the reference: m is what its number reader gave. -/
def refTake (s : Stp) (x : ByteArray) (m : Int) : Pt → Stp
  | .n => { s with n := m }
  | .t => { s with ticks := m }
  | .c => { s with ctx := wrap64 (m - 1) }
  | .a => { s with tab := posN tabN (bl x) }
  | .l => { s with lev := posN levN (bl x) }
  | .k => { s with key := refT x }
  | .e => { s with en := refT x }
  | .v => { s with val := refT x }

set_option maxRecDepth 100000 in
set_option maxHeartbeats 2000000 in
theorem ref40_take_n (s : Stp) (x : ByteArray) (w : World) (hT : Tabs w) (hx : x.size ≤ 1000) :
    Calls Tryd.prog 22 #[.agg (stpC s), .int .u8 ((codeR .n).toNat : Int), .string x] w fun e w' => ∃ m : Int, (∀ n : Nat, rd (bl x) = some n → m = n) ∧ e = .returned (.agg (stpC (refTake s x m .n))) ∧ Below w.heap.size w w' := by
  obtain ⟨W, hW⟩ : ∃ W, (w.alloc (.cells (stpC s) 26)).alloc (.cells #[.int .i64 0, .int .i64 0, .int .i64 0, .int .i64 0, .int .i64 0, .string ⟨#[]⟩, .string ⟨#[]⟩, .string ⟨#[]⟩, .int .i64 0] 26) = W := ⟨_, rfl⟩
  have bW : Below w.heap.size w W := by rw [← hW]; exact ((Below.refl _ _).alloc (Nat.le_refl _) _).alloc (by simp) _
  have BS : Blk W w.heap.size 26 (stpC s) := by rw [← hW]; exact (Blk.new _ _ _).alloc _
  have BZ : Blk W (w.heap.size + 1) 26 #[.int .i64 0, .int .i64 0, .int .i64 0, .int .i64 0, .int .i64 0, .string ⟨#[]⟩, .string ⟨#[]⟩, .string ⟨#[]⟩, .int .i64 0] := by
    have h := Blk.new (w.alloc (.cells (stpC s) 26)) 26 #[.int .i64 0, .int .i64 0, .int .i64 0, .int .i64 0, .int .i64 0, .string ⟨#[]⟩, .string ⟨#[]⟩, .string ⟨#[]⟩, .int .i64 0]
    rw [World.size_alloc] at h
    rw [← hW]
    exact h
  have HT := Lib.hid (hT.below bW)
  clear hT
  have CR := Lib.hid (ref02_Read x W (by omega))
  have CU := Lib.hid (fun w => ref01_Unquote x (by omega) w)
  rw [refV_eq] at CU
  obtain ⟨tt, htt⟩ : ∃ tt, refT x = tt := ⟨_, rfl⟩
  obtain ⟨tb, htb⟩ : ∃ tb, refB x = tb := ⟨_, rfl⟩
  rw [htt, htb] at CU
  have HTT := Lib.hid htt
  clear htt htb
  rw [show ((codeR .n).toNat : Int) = 78 from rfl]
  have HW := Lib.hid hW
  clear hW
  unfold stpC at HW ⊢
  go_enter Tryd.func22, Tryd.ntmps22
  go_upto_region 1 with fail
  rw [HW.out]
  clear HW
  go_wp2_with fail
  refine CR.out.mono ?_
  clear CR
  rintro e w1 ⟨rfl, m, rfl, hm⟩
  have HM := Lib.hid hm
  clear hm
  go_wp2_with fail
  refine (CU.out _ HT.out).mono ?_
  clear CU
  rintro e w2 ⟨rfl, b2⟩
  replace BZ := BZ.below b2 BZ.lt
  replace BS := BS.below b2 BS.lt
  replace bW := bW.trans (b2.mono bW.size)
  clear b2 HT

  have c0 := some_cell (BS.cell 1) (v := .int .i64 s.n) rfl
  have f0 := BS.frozen 1
  go_upto_region 19 with fail
  obtain ⟨b, hb⟩ : ∃ b, refTake s x m .n = b := ⟨_, rfl⟩
  have BS2 : Blk (w2.setCell ⟨w.heap.size, 1, none⟩ (.int .i64 m)) w.heap.size 26 (stpC b) := by
    rw [← hb]
    show Blk _ _ _ (stpC { s with n := _ })
    exact BS.set_ 1 (.int .i64 m)
  have BZ2 := BZ.far (p := ⟨w.heap.size, 1, none⟩) (by show w.heap.size + 1 ≠ w.heap.size; omega) (.int .i64 m)
  have hB2 := bW.setCell (p := ⟨w.heap.size, 1, none⟩) (Nat.le_refl _) (.int .i64 m)
  have HB := Lib.hid hb
  clear hb c0 f0 BS BZ bW
  generalize w2.setCell ⟨w.heap.size, 1, none⟩ (.int .i64 m) = w5 at *

  have g0 : w5.cell? ⟨w.heap.size, 0, none⟩ = some (.int .i64 b.kind) := BS2.cell 0
  have z0 := BZ2.cell 0
  have f0 := BZ2.frozen 0
  have g1 : w5.cell? ⟨w.heap.size, 1, none⟩ = some (.int .i64 b.n) := BS2.cell 1
  have z1 := BZ2.cell 1
  have f1 := BZ2.frozen 1
  have g2 : w5.cell? ⟨w.heap.size, 2, none⟩ = some (.int .i64 b.ticks) := BS2.cell 2
  have z2 := BZ2.cell 2
  have f2 := BZ2.frozen 2
  have g3 : w5.cell? ⟨w.heap.size, 3, none⟩ = some (.int .i64 b.tab) := BS2.cell 3
  have z3 := BZ2.cell 3
  have f3 := BZ2.frozen 3
  have g4 : w5.cell? ⟨w.heap.size, 4, none⟩ = some (.int .i64 b.lev) := BS2.cell 4
  have z4 := BZ2.cell 4
  have f4 := BZ2.frozen 4
  have g5 : w5.cell? ⟨w.heap.size, 5, none⟩ = some (.string b.key) := BS2.cell 5
  have z5 := BZ2.cell 5
  have f5 := BZ2.frozen 5
  have g6 : w5.cell? ⟨w.heap.size, 6, none⟩ = some (.string b.en) := BS2.cell 6
  have z6 := BZ2.cell 6
  have f6 := BZ2.frozen 6
  have g7 : w5.cell? ⟨w.heap.size, 7, none⟩ = some (.string b.val) := BS2.cell 7
  have z7 := BZ2.cell 7
  have f7 := BZ2.frozen 7
  have g8 : w5.cell? ⟨w.heap.size, 8, none⟩ = some (.int .i64 b.ctx) := BS2.cell 8
  have z8 := BZ2.cell 8
  have f8 := BZ2.frozen 8
  go_wp2_with fail
  have ZZ := ((((((((BZ2.set_ 0 (.int .i64 b.kind)).set_ 1 (.int .i64 b.n)).set_ 2 (.int .i64 b.ticks)).set_ 3 (.int .i64 b.tab)).set_ 4 (.int .i64 b.lev)).set_ 5 (.string b.key)).set_ 6 (.string b.en)).set_ 7 (.string b.val)).set_ 8 (.int .i64 b.ctx)
  have zz := ZZ.cell
  replace hB2 := hB2.setCell (p := ⟨w.heap.size + 1, 0, none⟩) (by show w.heap.size ≤ w.heap.size + 1; omega) (.int .i64 b.kind)
  replace hB2 := hB2.setCell (p := ⟨w.heap.size + 1, 1, none⟩) (by show w.heap.size ≤ w.heap.size + 1; omega) (.int .i64 b.n)
  replace hB2 := hB2.setCell (p := ⟨w.heap.size + 1, 2, none⟩) (by show w.heap.size ≤ w.heap.size + 1; omega) (.int .i64 b.ticks)
  replace hB2 := hB2.setCell (p := ⟨w.heap.size + 1, 3, none⟩) (by show w.heap.size ≤ w.heap.size + 1; omega) (.int .i64 b.tab)
  replace hB2 := hB2.setCell (p := ⟨w.heap.size + 1, 4, none⟩) (by show w.heap.size ≤ w.heap.size + 1; omega) (.int .i64 b.lev)
  replace hB2 := hB2.setCell (p := ⟨w.heap.size + 1, 5, none⟩) (by show w.heap.size ≤ w.heap.size + 1; omega) (.string b.key)
  replace hB2 := hB2.setCell (p := ⟨w.heap.size + 1, 6, none⟩) (by show w.heap.size ≤ w.heap.size + 1; omega) (.string b.en)
  replace hB2 := hB2.setCell (p := ⟨w.heap.size + 1, 7, none⟩) (by show w.heap.size ≤ w.heap.size + 1; omega) (.string b.val)
  replace hB2 := hB2.setCell (p := ⟨w.heap.size + 1, 8, none⟩) (by show w.heap.size ≤ w.heap.size + 1; omega) (.int .i64 b.ctx)
  exact bodyPost_ret (v := .agg (stpC b)) (by simp [results, Tryd.results22, go_sem, zz, stpC]) rfl ⟨m, HM.out, by rw [← HB.out]; rfl, hB2⟩

set_option maxRecDepth 100000 in
set_option maxHeartbeats 2000000 in
theorem ref40_take_t (s : Stp) (x : ByteArray) (w : World) (hT : Tabs w) (hx : x.size ≤ 1000) :
    Calls Tryd.prog 22 #[.agg (stpC s), .int .u8 ((codeR .t).toNat : Int), .string x] w fun e w' => ∃ m : Int, (∀ n : Nat, rd (bl x) = some n → m = n) ∧ e = .returned (.agg (stpC (refTake s x m .t))) ∧ Below w.heap.size w w' := by
  obtain ⟨W, hW⟩ : ∃ W, (w.alloc (.cells (stpC s) 26)).alloc (.cells #[.int .i64 0, .int .i64 0, .int .i64 0, .int .i64 0, .int .i64 0, .string ⟨#[]⟩, .string ⟨#[]⟩, .string ⟨#[]⟩, .int .i64 0] 26) = W := ⟨_, rfl⟩
  have bW : Below w.heap.size w W := by rw [← hW]; exact ((Below.refl _ _).alloc (Nat.le_refl _) _).alloc (by simp) _
  have BS : Blk W w.heap.size 26 (stpC s) := by rw [← hW]; exact (Blk.new _ _ _).alloc _
  have BZ : Blk W (w.heap.size + 1) 26 #[.int .i64 0, .int .i64 0, .int .i64 0, .int .i64 0, .int .i64 0, .string ⟨#[]⟩, .string ⟨#[]⟩, .string ⟨#[]⟩, .int .i64 0] := by
    have h := Blk.new (w.alloc (.cells (stpC s) 26)) 26 #[.int .i64 0, .int .i64 0, .int .i64 0, .int .i64 0, .int .i64 0, .string ⟨#[]⟩, .string ⟨#[]⟩, .string ⟨#[]⟩, .int .i64 0]
    rw [World.size_alloc] at h
    rw [← hW]
    exact h
  have HT := Lib.hid (hT.below bW)
  clear hT
  have CR := Lib.hid (ref02_Read x W (by omega))
  have CU := Lib.hid (fun w => ref01_Unquote x (by omega) w)
  rw [refV_eq] at CU
  obtain ⟨tt, htt⟩ : ∃ tt, refT x = tt := ⟨_, rfl⟩
  obtain ⟨tb, htb⟩ : ∃ tb, refB x = tb := ⟨_, rfl⟩
  rw [htt, htb] at CU
  have HTT := Lib.hid htt
  clear htt htb
  rw [show ((codeR .t).toNat : Int) = 83 from rfl]
  have HW := Lib.hid hW
  clear hW
  unfold stpC at HW ⊢
  go_enter Tryd.func22, Tryd.ntmps22
  go_upto_region 1 with fail
  rw [HW.out]
  clear HW
  go_wp2_with fail
  refine CR.out.mono ?_
  clear CR
  rintro e w1 ⟨rfl, m, rfl, hm⟩
  have HM := Lib.hid hm
  clear hm
  go_wp2_with fail
  refine (CU.out _ HT.out).mono ?_
  clear CU
  rintro e w2 ⟨rfl, b2⟩
  replace BZ := BZ.below b2 BZ.lt
  replace BS := BS.below b2 BS.lt
  replace bW := bW.trans (b2.mono bW.size)
  clear b2 HT

  have c0 := some_cell (BS.cell 2) (v := .int .i64 s.ticks) rfl
  have f0 := BS.frozen 2
  go_upto_region 19 with fail
  obtain ⟨b, hb⟩ : ∃ b, refTake s x m .t = b := ⟨_, rfl⟩
  have BS2 : Blk (w2.setCell ⟨w.heap.size, 2, none⟩ (.int .i64 m)) w.heap.size 26 (stpC b) := by
    rw [← hb]
    show Blk _ _ _ (stpC { s with ticks := _ })
    exact BS.set_ 2 (.int .i64 m)
  have BZ2 := BZ.far (p := ⟨w.heap.size, 2, none⟩) (by show w.heap.size + 1 ≠ w.heap.size; omega) (.int .i64 m)
  have hB2 := bW.setCell (p := ⟨w.heap.size, 2, none⟩) (Nat.le_refl _) (.int .i64 m)
  have HB := Lib.hid hb
  clear hb c0 f0 BS BZ bW
  generalize w2.setCell ⟨w.heap.size, 2, none⟩ (.int .i64 m) = w5 at *

  have g0 : w5.cell? ⟨w.heap.size, 0, none⟩ = some (.int .i64 b.kind) := BS2.cell 0
  have z0 := BZ2.cell 0
  have f0 := BZ2.frozen 0
  have g1 : w5.cell? ⟨w.heap.size, 1, none⟩ = some (.int .i64 b.n) := BS2.cell 1
  have z1 := BZ2.cell 1
  have f1 := BZ2.frozen 1
  have g2 : w5.cell? ⟨w.heap.size, 2, none⟩ = some (.int .i64 b.ticks) := BS2.cell 2
  have z2 := BZ2.cell 2
  have f2 := BZ2.frozen 2
  have g3 : w5.cell? ⟨w.heap.size, 3, none⟩ = some (.int .i64 b.tab) := BS2.cell 3
  have z3 := BZ2.cell 3
  have f3 := BZ2.frozen 3
  have g4 : w5.cell? ⟨w.heap.size, 4, none⟩ = some (.int .i64 b.lev) := BS2.cell 4
  have z4 := BZ2.cell 4
  have f4 := BZ2.frozen 4
  have g5 : w5.cell? ⟨w.heap.size, 5, none⟩ = some (.string b.key) := BS2.cell 5
  have z5 := BZ2.cell 5
  have f5 := BZ2.frozen 5
  have g6 : w5.cell? ⟨w.heap.size, 6, none⟩ = some (.string b.en) := BS2.cell 6
  have z6 := BZ2.cell 6
  have f6 := BZ2.frozen 6
  have g7 : w5.cell? ⟨w.heap.size, 7, none⟩ = some (.string b.val) := BS2.cell 7
  have z7 := BZ2.cell 7
  have f7 := BZ2.frozen 7
  have g8 : w5.cell? ⟨w.heap.size, 8, none⟩ = some (.int .i64 b.ctx) := BS2.cell 8
  have z8 := BZ2.cell 8
  have f8 := BZ2.frozen 8
  go_wp2_with fail
  have ZZ := ((((((((BZ2.set_ 0 (.int .i64 b.kind)).set_ 1 (.int .i64 b.n)).set_ 2 (.int .i64 b.ticks)).set_ 3 (.int .i64 b.tab)).set_ 4 (.int .i64 b.lev)).set_ 5 (.string b.key)).set_ 6 (.string b.en)).set_ 7 (.string b.val)).set_ 8 (.int .i64 b.ctx)
  have zz := ZZ.cell
  replace hB2 := hB2.setCell (p := ⟨w.heap.size + 1, 0, none⟩) (by show w.heap.size ≤ w.heap.size + 1; omega) (.int .i64 b.kind)
  replace hB2 := hB2.setCell (p := ⟨w.heap.size + 1, 1, none⟩) (by show w.heap.size ≤ w.heap.size + 1; omega) (.int .i64 b.n)
  replace hB2 := hB2.setCell (p := ⟨w.heap.size + 1, 2, none⟩) (by show w.heap.size ≤ w.heap.size + 1; omega) (.int .i64 b.ticks)
  replace hB2 := hB2.setCell (p := ⟨w.heap.size + 1, 3, none⟩) (by show w.heap.size ≤ w.heap.size + 1; omega) (.int .i64 b.tab)
  replace hB2 := hB2.setCell (p := ⟨w.heap.size + 1, 4, none⟩) (by show w.heap.size ≤ w.heap.size + 1; omega) (.int .i64 b.lev)
  replace hB2 := hB2.setCell (p := ⟨w.heap.size + 1, 5, none⟩) (by show w.heap.size ≤ w.heap.size + 1; omega) (.string b.key)
  replace hB2 := hB2.setCell (p := ⟨w.heap.size + 1, 6, none⟩) (by show w.heap.size ≤ w.heap.size + 1; omega) (.string b.en)
  replace hB2 := hB2.setCell (p := ⟨w.heap.size + 1, 7, none⟩) (by show w.heap.size ≤ w.heap.size + 1; omega) (.string b.val)
  replace hB2 := hB2.setCell (p := ⟨w.heap.size + 1, 8, none⟩) (by show w.heap.size ≤ w.heap.size + 1; omega) (.int .i64 b.ctx)
  exact bodyPost_ret (v := .agg (stpC b)) (by simp [results, Tryd.results22, go_sem, zz, stpC]) rfl ⟨m, HM.out, by rw [← HB.out]; rfl, hB2⟩

set_option maxRecDepth 100000 in
set_option maxHeartbeats 2000000 in
theorem ref40_take_c (s : Stp) (x : ByteArray) (w : World) (hT : Tabs w) (hx : x.size ≤ 1000) :
    Calls Tryd.prog 22 #[.agg (stpC s), .int .u8 ((codeR .c).toNat : Int), .string x] w fun e w' => ∃ m : Int, (∀ n : Nat, rd (bl x) = some n → m = n) ∧ e = .returned (.agg (stpC (refTake s x m .c))) ∧ Below w.heap.size w w' := by
  obtain ⟨W, hW⟩ : ∃ W, (w.alloc (.cells (stpC s) 26)).alloc (.cells #[.int .i64 0, .int .i64 0, .int .i64 0, .int .i64 0, .int .i64 0, .string ⟨#[]⟩, .string ⟨#[]⟩, .string ⟨#[]⟩, .int .i64 0] 26) = W := ⟨_, rfl⟩
  have bW : Below w.heap.size w W := by rw [← hW]; exact ((Below.refl _ _).alloc (Nat.le_refl _) _).alloc (by simp) _
  have BS : Blk W w.heap.size 26 (stpC s) := by rw [← hW]; exact (Blk.new _ _ _).alloc _
  have BZ : Blk W (w.heap.size + 1) 26 #[.int .i64 0, .int .i64 0, .int .i64 0, .int .i64 0, .int .i64 0, .string ⟨#[]⟩, .string ⟨#[]⟩, .string ⟨#[]⟩, .int .i64 0] := by
    have h := Blk.new (w.alloc (.cells (stpC s) 26)) 26 #[.int .i64 0, .int .i64 0, .int .i64 0, .int .i64 0, .int .i64 0, .string ⟨#[]⟩, .string ⟨#[]⟩, .string ⟨#[]⟩, .int .i64 0]
    rw [World.size_alloc] at h
    rw [← hW]
    exact h
  have HT := Lib.hid (hT.below bW)
  clear hT
  have CR := Lib.hid (ref02_Read x W (by omega))
  have CU := Lib.hid (fun w => ref01_Unquote x (by omega) w)
  rw [refV_eq] at CU
  obtain ⟨tt, htt⟩ : ∃ tt, refT x = tt := ⟨_, rfl⟩
  obtain ⟨tb, htb⟩ : ∃ tb, refB x = tb := ⟨_, rfl⟩
  rw [htt, htb] at CU
  have HTT := Lib.hid htt
  clear htt htb
  rw [show ((codeR .c).toNat : Int) = 67 from rfl]
  have HW := Lib.hid hW
  clear hW
  unfold stpC at HW ⊢
  go_enter Tryd.func22, Tryd.ntmps22
  go_upto_region 1 with fail
  rw [HW.out]
  clear HW
  go_wp2_with fail
  refine CR.out.mono ?_
  clear CR
  rintro e w1 ⟨rfl, m, rfl, hm⟩
  have HM := Lib.hid hm
  clear hm
  go_wp2_with fail
  refine (CU.out _ HT.out).mono ?_
  clear CU
  rintro e w2 ⟨rfl, b2⟩
  replace BZ := BZ.below b2 BZ.lt
  replace BS := BS.below b2 BS.lt
  replace bW := bW.trans (b2.mono bW.size)
  clear b2 HT

  have c0 := some_cell (BS.cell 8) (v := .int .i64 s.ctx) rfl
  have f0 := BS.frozen 8
  go_upto_region 19 with fail
  obtain ⟨b, hb⟩ : ∃ b, refTake s x m .c = b := ⟨_, rfl⟩
  have BS2 : Blk (w2.setCell ⟨w.heap.size, 8, none⟩ (.int .i64 (wrap64 (m - 1)))) w.heap.size 26 (stpC b) := by
    rw [← hb]
    show Blk _ _ _ (stpC { s with ctx := _ })
    exact BS.set_ 8 (.int .i64 (wrap64 (m - 1)))
  have BZ2 := BZ.far (p := ⟨w.heap.size, 8, none⟩) (by show w.heap.size + 1 ≠ w.heap.size; omega) (.int .i64 (wrap64 (m - 1)))
  have hB2 := bW.setCell (p := ⟨w.heap.size, 8, none⟩) (Nat.le_refl _) (.int .i64 (wrap64 (m - 1)))
  have HB := Lib.hid hb
  clear hb c0 f0 BS BZ bW
  generalize w2.setCell ⟨w.heap.size, 8, none⟩ (.int .i64 (wrap64 (m - 1))) = w5 at *

  have g0 : w5.cell? ⟨w.heap.size, 0, none⟩ = some (.int .i64 b.kind) := BS2.cell 0
  have z0 := BZ2.cell 0
  have f0 := BZ2.frozen 0
  have g1 : w5.cell? ⟨w.heap.size, 1, none⟩ = some (.int .i64 b.n) := BS2.cell 1
  have z1 := BZ2.cell 1
  have f1 := BZ2.frozen 1
  have g2 : w5.cell? ⟨w.heap.size, 2, none⟩ = some (.int .i64 b.ticks) := BS2.cell 2
  have z2 := BZ2.cell 2
  have f2 := BZ2.frozen 2
  have g3 : w5.cell? ⟨w.heap.size, 3, none⟩ = some (.int .i64 b.tab) := BS2.cell 3
  have z3 := BZ2.cell 3
  have f3 := BZ2.frozen 3
  have g4 : w5.cell? ⟨w.heap.size, 4, none⟩ = some (.int .i64 b.lev) := BS2.cell 4
  have z4 := BZ2.cell 4
  have f4 := BZ2.frozen 4
  have g5 : w5.cell? ⟨w.heap.size, 5, none⟩ = some (.string b.key) := BS2.cell 5
  have z5 := BZ2.cell 5
  have f5 := BZ2.frozen 5
  have g6 : w5.cell? ⟨w.heap.size, 6, none⟩ = some (.string b.en) := BS2.cell 6
  have z6 := BZ2.cell 6
  have f6 := BZ2.frozen 6
  have g7 : w5.cell? ⟨w.heap.size, 7, none⟩ = some (.string b.val) := BS2.cell 7
  have z7 := BZ2.cell 7
  have f7 := BZ2.frozen 7
  have g8 : w5.cell? ⟨w.heap.size, 8, none⟩ = some (.int .i64 b.ctx) := BS2.cell 8
  have z8 := BZ2.cell 8
  have f8 := BZ2.frozen 8
  go_wp2_with fail
  have ZZ := ((((((((BZ2.set_ 0 (.int .i64 b.kind)).set_ 1 (.int .i64 b.n)).set_ 2 (.int .i64 b.ticks)).set_ 3 (.int .i64 b.tab)).set_ 4 (.int .i64 b.lev)).set_ 5 (.string b.key)).set_ 6 (.string b.en)).set_ 7 (.string b.val)).set_ 8 (.int .i64 b.ctx)
  have zz := ZZ.cell
  replace hB2 := hB2.setCell (p := ⟨w.heap.size + 1, 0, none⟩) (by show w.heap.size ≤ w.heap.size + 1; omega) (.int .i64 b.kind)
  replace hB2 := hB2.setCell (p := ⟨w.heap.size + 1, 1, none⟩) (by show w.heap.size ≤ w.heap.size + 1; omega) (.int .i64 b.n)
  replace hB2 := hB2.setCell (p := ⟨w.heap.size + 1, 2, none⟩) (by show w.heap.size ≤ w.heap.size + 1; omega) (.int .i64 b.ticks)
  replace hB2 := hB2.setCell (p := ⟨w.heap.size + 1, 3, none⟩) (by show w.heap.size ≤ w.heap.size + 1; omega) (.int .i64 b.tab)
  replace hB2 := hB2.setCell (p := ⟨w.heap.size + 1, 4, none⟩) (by show w.heap.size ≤ w.heap.size + 1; omega) (.int .i64 b.lev)
  replace hB2 := hB2.setCell (p := ⟨w.heap.size + 1, 5, none⟩) (by show w.heap.size ≤ w.heap.size + 1; omega) (.string b.key)
  replace hB2 := hB2.setCell (p := ⟨w.heap.size + 1, 6, none⟩) (by show w.heap.size ≤ w.heap.size + 1; omega) (.string b.en)
  replace hB2 := hB2.setCell (p := ⟨w.heap.size + 1, 7, none⟩) (by show w.heap.size ≤ w.heap.size + 1; omega) (.string b.val)
  replace hB2 := hB2.setCell (p := ⟨w.heap.size + 1, 8, none⟩) (by show w.heap.size ≤ w.heap.size + 1; omega) (.int .i64 b.ctx)
  exact bodyPost_ret (v := .agg (stpC b)) (by simp [results, Tryd.results22, go_sem, zz, stpC]) rfl ⟨m, HM.out, by rw [← HB.out]; rfl, hB2⟩

set_option maxRecDepth 100000 in
set_option maxHeartbeats 2000000 in
theorem ref40_take_a (s : Stp) (x : ByteArray) (w : World) (hT : Tabs w) (hx : x.size ≤ 1000) :
    Calls Tryd.prog 22 #[.agg (stpC s), .int .u8 ((codeR .a).toNat : Int), .string x] w fun e w' => ∃ m : Int, (∀ n : Nat, rd (bl x) = some n → m = n) ∧ e = .returned (.agg (stpC (refTake s x m .a))) ∧ Below w.heap.size w w' := by
  obtain ⟨W, hW⟩ : ∃ W, (w.alloc (.cells (stpC s) 26)).alloc (.cells #[.int .i64 0, .int .i64 0, .int .i64 0, .int .i64 0, .int .i64 0, .string ⟨#[]⟩, .string ⟨#[]⟩, .string ⟨#[]⟩, .int .i64 0] 26) = W := ⟨_, rfl⟩
  have bW : Below w.heap.size w W := by rw [← hW]; exact ((Below.refl _ _).alloc (Nat.le_refl _) _).alloc (by simp) _
  have BS : Blk W w.heap.size 26 (stpC s) := by rw [← hW]; exact (Blk.new _ _ _).alloc _
  have BZ : Blk W (w.heap.size + 1) 26 #[.int .i64 0, .int .i64 0, .int .i64 0, .int .i64 0, .int .i64 0, .string ⟨#[]⟩, .string ⟨#[]⟩, .string ⟨#[]⟩, .int .i64 0] := by
    have h := Blk.new (w.alloc (.cells (stpC s) 26)) 26 #[.int .i64 0, .int .i64 0, .int .i64 0, .int .i64 0, .int .i64 0, .string ⟨#[]⟩, .string ⟨#[]⟩, .string ⟨#[]⟩, .int .i64 0]
    rw [World.size_alloc] at h
    rw [← hW]
    exact h
  have HT := Lib.hid (hT.below bW)
  clear hT
  have CR := Lib.hid (ref02_Read x W (by omega))
  have CU := Lib.hid (fun w => ref01_Unquote x (by omega) w)
  rw [refV_eq] at CU
  obtain ⟨tt, htt⟩ : ∃ tt, refT x = tt := ⟨_, rfl⟩
  obtain ⟨tb, htb⟩ : ∃ tb, refB x = tb := ⟨_, rfl⟩
  rw [htt, htb] at CU
  have HTT := Lib.hid htt
  clear htt htb
  rw [show ((codeR .a).toNat : Int) = 84 from rfl]
  have HW := Lib.hid hW
  clear hW
  unfold stpC at HW ⊢
  go_enter Tryd.func22, Tryd.ntmps22
  go_upto_region 1 with fail
  rw [HW.out]
  clear HW
  go_wp2_with fail
  refine CR.out.mono ?_
  clear CR
  rintro e w1 ⟨rfl, m, rfl, hm⟩
  have HM := Lib.hid hm
  clear hm
  go_wp2_with fail
  refine (CU.out _ HT.out).mono ?_
  clear CU
  rintro e w2 ⟨rfl, b2⟩
  replace BZ := BZ.below b2 BZ.lt
  replace BS := BS.below b2 BS.lt
  replace bW := bW.trans (b2.mono bW.size)
  clear b2 HT

  have hgl := BS.lt
  have hgz := BZ.lt
  go_wp2_with fail
  obtain ⟨w3, hw3⟩ : ∃ w3, w2.alloc (.cells ((([] :: tabN).map sv).toArray) 9) = w3 := ⟨_, rfl⟩
  have hn3 : NamesAt w3 w2.heap.size ([] :: tabN) := by rw [← hw3]; exact Blk.new _ _ _
  have CN := Lib.hid (ref40_name w2.heap.size tabN x w3 hn3 (by decide))
  replace BS := BS.alloc (.cells ((([] :: tabN).map sv).toArray) 9)
  replace BZ := BZ.alloc (.cells ((([] :: tabN).map sv).toArray) 9)
  replace bW := bW.alloc bW.size (.cells ((([] :: tabN).map sv).toArray) 9)
  rw [show (tabN.length + 1 : Nat) = 3 from rfl, ← hw3] at CN
  obtain ⟨r, hr⟩ : ∃ r, posN tabN (bl x) = r := ⟨_, rfl⟩
  rw [hr] at CN
  have HR := Lib.hid hr
  clear hr hn3 hw3 w3
  refine CN.out.mono ?_
  clear CN
  rintro e w4 ⟨rfl, hw4⟩
  rw [hw4] at BS BZ bW
  clear hw4
  have c0 := some_cell (BS.cell 3) (v := .int .i64 s.tab) rfl
  have f0 := BS.frozen 3
  go_upto_region 19 with fail
  obtain ⟨b, hb⟩ : ∃ b, refTake s x m .a = b := ⟨_, rfl⟩
  have BS2 : Blk (w4.setCell ⟨w.heap.size, 3, none⟩ (.int .i64 r)) w.heap.size 26 (stpC b) := by
    rw [← hb]
    show Blk _ _ _ (stpC { s with tab := ((posN _ (bl x) : Nat) : Int) })
    rw [HR.out]
    exact BS.set_ 3 (.int .i64 r)
  have BZ2 := BZ.far (p := ⟨w.heap.size, 3, none⟩) (by show w.heap.size + 1 ≠ w.heap.size; omega) (.int .i64 r)
  have hB2 := bW.setCell (p := ⟨w.heap.size, 3, none⟩) (Nat.le_refl _) (.int .i64 r)
  have HB := Lib.hid hb
  clear hb c0 f0 BS BZ bW
  generalize w4.setCell ⟨w.heap.size, 3, none⟩ (.int .i64 r) = w5 at *

  have g0 : w5.cell? ⟨w.heap.size, 0, none⟩ = some (.int .i64 b.kind) := BS2.cell 0
  have z0 := BZ2.cell 0
  have f0 := BZ2.frozen 0
  have g1 : w5.cell? ⟨w.heap.size, 1, none⟩ = some (.int .i64 b.n) := BS2.cell 1
  have z1 := BZ2.cell 1
  have f1 := BZ2.frozen 1
  have g2 : w5.cell? ⟨w.heap.size, 2, none⟩ = some (.int .i64 b.ticks) := BS2.cell 2
  have z2 := BZ2.cell 2
  have f2 := BZ2.frozen 2
  have g3 : w5.cell? ⟨w.heap.size, 3, none⟩ = some (.int .i64 b.tab) := BS2.cell 3
  have z3 := BZ2.cell 3
  have f3 := BZ2.frozen 3
  have g4 : w5.cell? ⟨w.heap.size, 4, none⟩ = some (.int .i64 b.lev) := BS2.cell 4
  have z4 := BZ2.cell 4
  have f4 := BZ2.frozen 4
  have g5 : w5.cell? ⟨w.heap.size, 5, none⟩ = some (.string b.key) := BS2.cell 5
  have z5 := BZ2.cell 5
  have f5 := BZ2.frozen 5
  have g6 : w5.cell? ⟨w.heap.size, 6, none⟩ = some (.string b.en) := BS2.cell 6
  have z6 := BZ2.cell 6
  have f6 := BZ2.frozen 6
  have g7 : w5.cell? ⟨w.heap.size, 7, none⟩ = some (.string b.val) := BS2.cell 7
  have z7 := BZ2.cell 7
  have f7 := BZ2.frozen 7
  have g8 : w5.cell? ⟨w.heap.size, 8, none⟩ = some (.int .i64 b.ctx) := BS2.cell 8
  have z8 := BZ2.cell 8
  have f8 := BZ2.frozen 8
  go_wp2_with fail
  have ZZ := ((((((((BZ2.set_ 0 (.int .i64 b.kind)).set_ 1 (.int .i64 b.n)).set_ 2 (.int .i64 b.ticks)).set_ 3 (.int .i64 b.tab)).set_ 4 (.int .i64 b.lev)).set_ 5 (.string b.key)).set_ 6 (.string b.en)).set_ 7 (.string b.val)).set_ 8 (.int .i64 b.ctx)
  have zz := ZZ.cell
  replace hB2 := hB2.setCell (p := ⟨w.heap.size + 1, 0, none⟩) (by show w.heap.size ≤ w.heap.size + 1; omega) (.int .i64 b.kind)
  replace hB2 := hB2.setCell (p := ⟨w.heap.size + 1, 1, none⟩) (by show w.heap.size ≤ w.heap.size + 1; omega) (.int .i64 b.n)
  replace hB2 := hB2.setCell (p := ⟨w.heap.size + 1, 2, none⟩) (by show w.heap.size ≤ w.heap.size + 1; omega) (.int .i64 b.ticks)
  replace hB2 := hB2.setCell (p := ⟨w.heap.size + 1, 3, none⟩) (by show w.heap.size ≤ w.heap.size + 1; omega) (.int .i64 b.tab)
  replace hB2 := hB2.setCell (p := ⟨w.heap.size + 1, 4, none⟩) (by show w.heap.size ≤ w.heap.size + 1; omega) (.int .i64 b.lev)
  replace hB2 := hB2.setCell (p := ⟨w.heap.size + 1, 5, none⟩) (by show w.heap.size ≤ w.heap.size + 1; omega) (.string b.key)
  replace hB2 := hB2.setCell (p := ⟨w.heap.size + 1, 6, none⟩) (by show w.heap.size ≤ w.heap.size + 1; omega) (.string b.en)
  replace hB2 := hB2.setCell (p := ⟨w.heap.size + 1, 7, none⟩) (by show w.heap.size ≤ w.heap.size + 1; omega) (.string b.val)
  replace hB2 := hB2.setCell (p := ⟨w.heap.size + 1, 8, none⟩) (by show w.heap.size ≤ w.heap.size + 1; omega) (.int .i64 b.ctx)
  exact bodyPost_ret (v := .agg (stpC b)) (by simp [results, Tryd.results22, go_sem, zz, stpC]) rfl ⟨m, HM.out, by rw [← HB.out]; rfl, hB2⟩

set_option maxRecDepth 100000 in
set_option maxHeartbeats 2000000 in
theorem ref40_take_l (s : Stp) (x : ByteArray) (w : World) (hT : Tabs w) (hx : x.size ≤ 1000) :
    Calls Tryd.prog 22 #[.agg (stpC s), .int .u8 ((codeR .l).toNat : Int), .string x] w fun e w' => ∃ m : Int, (∀ n : Nat, rd (bl x) = some n → m = n) ∧ e = .returned (.agg (stpC (refTake s x m .l))) ∧ Below w.heap.size w w' := by
  obtain ⟨W, hW⟩ : ∃ W, (w.alloc (.cells (stpC s) 26)).alloc (.cells #[.int .i64 0, .int .i64 0, .int .i64 0, .int .i64 0, .int .i64 0, .string ⟨#[]⟩, .string ⟨#[]⟩, .string ⟨#[]⟩, .int .i64 0] 26) = W := ⟨_, rfl⟩
  have bW : Below w.heap.size w W := by rw [← hW]; exact ((Below.refl _ _).alloc (Nat.le_refl _) _).alloc (by simp) _
  have BS : Blk W w.heap.size 26 (stpC s) := by rw [← hW]; exact (Blk.new _ _ _).alloc _
  have BZ : Blk W (w.heap.size + 1) 26 #[.int .i64 0, .int .i64 0, .int .i64 0, .int .i64 0, .int .i64 0, .string ⟨#[]⟩, .string ⟨#[]⟩, .string ⟨#[]⟩, .int .i64 0] := by
    have h := Blk.new (w.alloc (.cells (stpC s) 26)) 26 #[.int .i64 0, .int .i64 0, .int .i64 0, .int .i64 0, .int .i64 0, .string ⟨#[]⟩, .string ⟨#[]⟩, .string ⟨#[]⟩, .int .i64 0]
    rw [World.size_alloc] at h
    rw [← hW]
    exact h
  have HT := Lib.hid (hT.below bW)
  clear hT
  have CR := Lib.hid (ref02_Read x W (by omega))
  have CU := Lib.hid (fun w => ref01_Unquote x (by omega) w)
  rw [refV_eq] at CU
  obtain ⟨tt, htt⟩ : ∃ tt, refT x = tt := ⟨_, rfl⟩
  obtain ⟨tb, htb⟩ : ∃ tb, refB x = tb := ⟨_, rfl⟩
  rw [htt, htb] at CU
  have HTT := Lib.hid htt
  clear htt htb
  rw [show ((codeR .l).toNat : Int) = 76 from rfl]
  have HW := Lib.hid hW
  clear hW
  unfold stpC at HW ⊢
  go_enter Tryd.func22, Tryd.ntmps22
  go_upto_region 1 with fail
  rw [HW.out]
  clear HW
  go_wp2_with fail
  refine CR.out.mono ?_
  clear CR
  rintro e w1 ⟨rfl, m, rfl, hm⟩
  have HM := Lib.hid hm
  clear hm
  go_wp2_with fail
  refine (CU.out _ HT.out).mono ?_
  clear CU
  rintro e w2 ⟨rfl, b2⟩
  replace BZ := BZ.below b2 BZ.lt
  replace BS := BS.below b2 BS.lt
  replace bW := bW.trans (b2.mono bW.size)
  clear b2 HT

  have hgl := BS.lt
  have hgz := BZ.lt
  go_wp2_with fail
  obtain ⟨w3, hw3⟩ : ∃ w3, w2.alloc (.cells ((([] :: levN).map sv).toArray) 9) = w3 := ⟨_, rfl⟩
  have hn3 : NamesAt w3 w2.heap.size ([] :: levN) := by rw [← hw3]; exact Blk.new _ _ _
  have CN := Lib.hid (ref40_name w2.heap.size levN x w3 hn3 (by decide))
  replace BS := BS.alloc (.cells ((([] :: levN).map sv).toArray) 9)
  replace BZ := BZ.alloc (.cells ((([] :: levN).map sv).toArray) 9)
  replace bW := bW.alloc bW.size (.cells ((([] :: levN).map sv).toArray) 9)
  rw [show (levN.length + 1 : Nat) = 4 from rfl, ← hw3] at CN
  obtain ⟨r, hr⟩ : ∃ r, posN levN (bl x) = r := ⟨_, rfl⟩
  rw [hr] at CN
  have HR := Lib.hid hr
  clear hr hn3 hw3 w3
  refine CN.out.mono ?_
  clear CN
  rintro e w4 ⟨rfl, hw4⟩
  rw [hw4] at BS BZ bW
  clear hw4
  have c0 := some_cell (BS.cell 4) (v := .int .i64 s.lev) rfl
  have f0 := BS.frozen 4
  go_upto_region 19 with fail
  obtain ⟨b, hb⟩ : ∃ b, refTake s x m .l = b := ⟨_, rfl⟩
  have BS2 : Blk (w4.setCell ⟨w.heap.size, 4, none⟩ (.int .i64 r)) w.heap.size 26 (stpC b) := by
    rw [← hb]
    show Blk _ _ _ (stpC { s with lev := ((posN _ (bl x) : Nat) : Int) })
    rw [HR.out]
    exact BS.set_ 4 (.int .i64 r)
  have BZ2 := BZ.far (p := ⟨w.heap.size, 4, none⟩) (by show w.heap.size + 1 ≠ w.heap.size; omega) (.int .i64 r)
  have hB2 := bW.setCell (p := ⟨w.heap.size, 4, none⟩) (Nat.le_refl _) (.int .i64 r)
  have HB := Lib.hid hb
  clear hb c0 f0 BS BZ bW
  generalize w4.setCell ⟨w.heap.size, 4, none⟩ (.int .i64 r) = w5 at *

  have g0 : w5.cell? ⟨w.heap.size, 0, none⟩ = some (.int .i64 b.kind) := BS2.cell 0
  have z0 := BZ2.cell 0
  have f0 := BZ2.frozen 0
  have g1 : w5.cell? ⟨w.heap.size, 1, none⟩ = some (.int .i64 b.n) := BS2.cell 1
  have z1 := BZ2.cell 1
  have f1 := BZ2.frozen 1
  have g2 : w5.cell? ⟨w.heap.size, 2, none⟩ = some (.int .i64 b.ticks) := BS2.cell 2
  have z2 := BZ2.cell 2
  have f2 := BZ2.frozen 2
  have g3 : w5.cell? ⟨w.heap.size, 3, none⟩ = some (.int .i64 b.tab) := BS2.cell 3
  have z3 := BZ2.cell 3
  have f3 := BZ2.frozen 3
  have g4 : w5.cell? ⟨w.heap.size, 4, none⟩ = some (.int .i64 b.lev) := BS2.cell 4
  have z4 := BZ2.cell 4
  have f4 := BZ2.frozen 4
  have g5 : w5.cell? ⟨w.heap.size, 5, none⟩ = some (.string b.key) := BS2.cell 5
  have z5 := BZ2.cell 5
  have f5 := BZ2.frozen 5
  have g6 : w5.cell? ⟨w.heap.size, 6, none⟩ = some (.string b.en) := BS2.cell 6
  have z6 := BZ2.cell 6
  have f6 := BZ2.frozen 6
  have g7 : w5.cell? ⟨w.heap.size, 7, none⟩ = some (.string b.val) := BS2.cell 7
  have z7 := BZ2.cell 7
  have f7 := BZ2.frozen 7
  have g8 : w5.cell? ⟨w.heap.size, 8, none⟩ = some (.int .i64 b.ctx) := BS2.cell 8
  have z8 := BZ2.cell 8
  have f8 := BZ2.frozen 8
  go_wp2_with fail
  have ZZ := ((((((((BZ2.set_ 0 (.int .i64 b.kind)).set_ 1 (.int .i64 b.n)).set_ 2 (.int .i64 b.ticks)).set_ 3 (.int .i64 b.tab)).set_ 4 (.int .i64 b.lev)).set_ 5 (.string b.key)).set_ 6 (.string b.en)).set_ 7 (.string b.val)).set_ 8 (.int .i64 b.ctx)
  have zz := ZZ.cell
  replace hB2 := hB2.setCell (p := ⟨w.heap.size + 1, 0, none⟩) (by show w.heap.size ≤ w.heap.size + 1; omega) (.int .i64 b.kind)
  replace hB2 := hB2.setCell (p := ⟨w.heap.size + 1, 1, none⟩) (by show w.heap.size ≤ w.heap.size + 1; omega) (.int .i64 b.n)
  replace hB2 := hB2.setCell (p := ⟨w.heap.size + 1, 2, none⟩) (by show w.heap.size ≤ w.heap.size + 1; omega) (.int .i64 b.ticks)
  replace hB2 := hB2.setCell (p := ⟨w.heap.size + 1, 3, none⟩) (by show w.heap.size ≤ w.heap.size + 1; omega) (.int .i64 b.tab)
  replace hB2 := hB2.setCell (p := ⟨w.heap.size + 1, 4, none⟩) (by show w.heap.size ≤ w.heap.size + 1; omega) (.int .i64 b.lev)
  replace hB2 := hB2.setCell (p := ⟨w.heap.size + 1, 5, none⟩) (by show w.heap.size ≤ w.heap.size + 1; omega) (.string b.key)
  replace hB2 := hB2.setCell (p := ⟨w.heap.size + 1, 6, none⟩) (by show w.heap.size ≤ w.heap.size + 1; omega) (.string b.en)
  replace hB2 := hB2.setCell (p := ⟨w.heap.size + 1, 7, none⟩) (by show w.heap.size ≤ w.heap.size + 1; omega) (.string b.val)
  replace hB2 := hB2.setCell (p := ⟨w.heap.size + 1, 8, none⟩) (by show w.heap.size ≤ w.heap.size + 1; omega) (.int .i64 b.ctx)
  exact bodyPost_ret (v := .agg (stpC b)) (by simp [results, Tryd.results22, go_sem, zz, stpC]) rfl ⟨m, HM.out, by rw [← HB.out]; rfl, hB2⟩

set_option maxRecDepth 100000 in
set_option maxHeartbeats 2000000 in
theorem ref40_take_k (s : Stp) (x : ByteArray) (w : World) (hT : Tabs w) (hx : x.size ≤ 1000) :
    Calls Tryd.prog 22 #[.agg (stpC s), .int .u8 ((codeR .k).toNat : Int), .string x] w fun e w' => ∃ m : Int, (∀ n : Nat, rd (bl x) = some n → m = n) ∧ e = .returned (.agg (stpC (refTake s x m .k))) ∧ Below w.heap.size w w' := by
  obtain ⟨W, hW⟩ : ∃ W, (w.alloc (.cells (stpC s) 26)).alloc (.cells #[.int .i64 0, .int .i64 0, .int .i64 0, .int .i64 0, .int .i64 0, .string ⟨#[]⟩, .string ⟨#[]⟩, .string ⟨#[]⟩, .int .i64 0] 26) = W := ⟨_, rfl⟩
  have bW : Below w.heap.size w W := by rw [← hW]; exact ((Below.refl _ _).alloc (Nat.le_refl _) _).alloc (by simp) _
  have BS : Blk W w.heap.size 26 (stpC s) := by rw [← hW]; exact (Blk.new _ _ _).alloc _
  have BZ : Blk W (w.heap.size + 1) 26 #[.int .i64 0, .int .i64 0, .int .i64 0, .int .i64 0, .int .i64 0, .string ⟨#[]⟩, .string ⟨#[]⟩, .string ⟨#[]⟩, .int .i64 0] := by
    have h := Blk.new (w.alloc (.cells (stpC s) 26)) 26 #[.int .i64 0, .int .i64 0, .int .i64 0, .int .i64 0, .int .i64 0, .string ⟨#[]⟩, .string ⟨#[]⟩, .string ⟨#[]⟩, .int .i64 0]
    rw [World.size_alloc] at h
    rw [← hW]
    exact h
  have HT := Lib.hid (hT.below bW)
  clear hT
  have CR := Lib.hid (ref02_Read x W (by omega))
  have CU := Lib.hid (fun w => ref01_Unquote x (by omega) w)
  rw [refV_eq] at CU
  obtain ⟨tt, htt⟩ : ∃ tt, refT x = tt := ⟨_, rfl⟩
  obtain ⟨tb, htb⟩ : ∃ tb, refB x = tb := ⟨_, rfl⟩
  rw [htt, htb] at CU
  have HTT := Lib.hid htt
  clear htt htb
  rw [show ((codeR .k).toNat : Int) = 75 from rfl]
  have HW := Lib.hid hW
  clear hW
  unfold stpC at HW ⊢
  go_enter Tryd.func22, Tryd.ntmps22
  go_upto_region 1 with fail
  rw [HW.out]
  clear HW
  go_wp2_with fail
  refine CR.out.mono ?_
  clear CR
  rintro e w1 ⟨rfl, m, rfl, hm⟩
  have HM := Lib.hid hm
  clear hm
  go_wp2_with fail
  refine (CU.out _ HT.out).mono ?_
  clear CU
  rintro e w2 ⟨rfl, b2⟩
  replace BZ := BZ.below b2 BZ.lt
  replace BS := BS.below b2 BS.lt
  replace bW := bW.trans (b2.mono bW.size)
  clear b2 HT

  have c0 := some_cell (BS.cell 5) (v := .string s.key) rfl
  have f0 := BS.frozen 5
  go_upto_region 19 with fail
  obtain ⟨b, hb⟩ : ∃ b, refTake s x m .k = b := ⟨_, rfl⟩
  have BS2 : Blk (w2.setCell ⟨w.heap.size, 5, none⟩ (.string tt)) w.heap.size 26 (stpC b) := by
    rw [← hb]
    show Blk _ _ _ (stpC { s with key := refT x })
    rw [HTT.out]
    exact BS.set_ 5 (.string tt)
  have BZ2 := BZ.far (p := ⟨w.heap.size, 5, none⟩) (by show w.heap.size + 1 ≠ w.heap.size; omega) (.string tt)
  have hB2 := bW.setCell (p := ⟨w.heap.size, 5, none⟩) (Nat.le_refl _) (.string tt)
  have HB := Lib.hid hb
  clear hb c0 f0 BS BZ bW
  generalize w2.setCell ⟨w.heap.size, 5, none⟩ (.string tt) = w5 at *

  have g0 : w5.cell? ⟨w.heap.size, 0, none⟩ = some (.int .i64 b.kind) := BS2.cell 0
  have z0 := BZ2.cell 0
  have f0 := BZ2.frozen 0
  have g1 : w5.cell? ⟨w.heap.size, 1, none⟩ = some (.int .i64 b.n) := BS2.cell 1
  have z1 := BZ2.cell 1
  have f1 := BZ2.frozen 1
  have g2 : w5.cell? ⟨w.heap.size, 2, none⟩ = some (.int .i64 b.ticks) := BS2.cell 2
  have z2 := BZ2.cell 2
  have f2 := BZ2.frozen 2
  have g3 : w5.cell? ⟨w.heap.size, 3, none⟩ = some (.int .i64 b.tab) := BS2.cell 3
  have z3 := BZ2.cell 3
  have f3 := BZ2.frozen 3
  have g4 : w5.cell? ⟨w.heap.size, 4, none⟩ = some (.int .i64 b.lev) := BS2.cell 4
  have z4 := BZ2.cell 4
  have f4 := BZ2.frozen 4
  have g5 : w5.cell? ⟨w.heap.size, 5, none⟩ = some (.string b.key) := BS2.cell 5
  have z5 := BZ2.cell 5
  have f5 := BZ2.frozen 5
  have g6 : w5.cell? ⟨w.heap.size, 6, none⟩ = some (.string b.en) := BS2.cell 6
  have z6 := BZ2.cell 6
  have f6 := BZ2.frozen 6
  have g7 : w5.cell? ⟨w.heap.size, 7, none⟩ = some (.string b.val) := BS2.cell 7
  have z7 := BZ2.cell 7
  have f7 := BZ2.frozen 7
  have g8 : w5.cell? ⟨w.heap.size, 8, none⟩ = some (.int .i64 b.ctx) := BS2.cell 8
  have z8 := BZ2.cell 8
  have f8 := BZ2.frozen 8
  go_wp2_with fail
  have ZZ := ((((((((BZ2.set_ 0 (.int .i64 b.kind)).set_ 1 (.int .i64 b.n)).set_ 2 (.int .i64 b.ticks)).set_ 3 (.int .i64 b.tab)).set_ 4 (.int .i64 b.lev)).set_ 5 (.string b.key)).set_ 6 (.string b.en)).set_ 7 (.string b.val)).set_ 8 (.int .i64 b.ctx)
  have zz := ZZ.cell
  replace hB2 := hB2.setCell (p := ⟨w.heap.size + 1, 0, none⟩) (by show w.heap.size ≤ w.heap.size + 1; omega) (.int .i64 b.kind)
  replace hB2 := hB2.setCell (p := ⟨w.heap.size + 1, 1, none⟩) (by show w.heap.size ≤ w.heap.size + 1; omega) (.int .i64 b.n)
  replace hB2 := hB2.setCell (p := ⟨w.heap.size + 1, 2, none⟩) (by show w.heap.size ≤ w.heap.size + 1; omega) (.int .i64 b.ticks)
  replace hB2 := hB2.setCell (p := ⟨w.heap.size + 1, 3, none⟩) (by show w.heap.size ≤ w.heap.size + 1; omega) (.int .i64 b.tab)
  replace hB2 := hB2.setCell (p := ⟨w.heap.size + 1, 4, none⟩) (by show w.heap.size ≤ w.heap.size + 1; omega) (.int .i64 b.lev)
  replace hB2 := hB2.setCell (p := ⟨w.heap.size + 1, 5, none⟩) (by show w.heap.size ≤ w.heap.size + 1; omega) (.string b.key)
  replace hB2 := hB2.setCell (p := ⟨w.heap.size + 1, 6, none⟩) (by show w.heap.size ≤ w.heap.size + 1; omega) (.string b.en)
  replace hB2 := hB2.setCell (p := ⟨w.heap.size + 1, 7, none⟩) (by show w.heap.size ≤ w.heap.size + 1; omega) (.string b.val)
  replace hB2 := hB2.setCell (p := ⟨w.heap.size + 1, 8, none⟩) (by show w.heap.size ≤ w.heap.size + 1; omega) (.int .i64 b.ctx)
  exact bodyPost_ret (v := .agg (stpC b)) (by simp [results, Tryd.results22, go_sem, zz, stpC]) rfl ⟨m, HM.out, by rw [← HB.out]; rfl, hB2⟩

set_option maxRecDepth 100000 in
set_option maxHeartbeats 2000000 in
theorem ref40_take_e (s : Stp) (x : ByteArray) (w : World) (hT : Tabs w) (hx : x.size ≤ 1000) :
    Calls Tryd.prog 22 #[.agg (stpC s), .int .u8 ((codeR .e).toNat : Int), .string x] w fun e w' => ∃ m : Int, (∀ n : Nat, rd (bl x) = some n → m = n) ∧ e = .returned (.agg (stpC (refTake s x m .e))) ∧ Below w.heap.size w w' := by
  obtain ⟨W, hW⟩ : ∃ W, (w.alloc (.cells (stpC s) 26)).alloc (.cells #[.int .i64 0, .int .i64 0, .int .i64 0, .int .i64 0, .int .i64 0, .string ⟨#[]⟩, .string ⟨#[]⟩, .string ⟨#[]⟩, .int .i64 0] 26) = W := ⟨_, rfl⟩
  have bW : Below w.heap.size w W := by rw [← hW]; exact ((Below.refl _ _).alloc (Nat.le_refl _) _).alloc (by simp) _
  have BS : Blk W w.heap.size 26 (stpC s) := by rw [← hW]; exact (Blk.new _ _ _).alloc _
  have BZ : Blk W (w.heap.size + 1) 26 #[.int .i64 0, .int .i64 0, .int .i64 0, .int .i64 0, .int .i64 0, .string ⟨#[]⟩, .string ⟨#[]⟩, .string ⟨#[]⟩, .int .i64 0] := by
    have h := Blk.new (w.alloc (.cells (stpC s) 26)) 26 #[.int .i64 0, .int .i64 0, .int .i64 0, .int .i64 0, .int .i64 0, .string ⟨#[]⟩, .string ⟨#[]⟩, .string ⟨#[]⟩, .int .i64 0]
    rw [World.size_alloc] at h
    rw [← hW]
    exact h
  have HT := Lib.hid (hT.below bW)
  clear hT
  have CR := Lib.hid (ref02_Read x W (by omega))
  have CU := Lib.hid (fun w => ref01_Unquote x (by omega) w)
  rw [refV_eq] at CU
  obtain ⟨tt, htt⟩ : ∃ tt, refT x = tt := ⟨_, rfl⟩
  obtain ⟨tb, htb⟩ : ∃ tb, refB x = tb := ⟨_, rfl⟩
  rw [htt, htb] at CU
  have HTT := Lib.hid htt
  clear htt htb
  rw [show ((codeR .e).toNat : Int) = 69 from rfl]
  have HW := Lib.hid hW
  clear hW
  unfold stpC at HW ⊢
  go_enter Tryd.func22, Tryd.ntmps22
  go_upto_region 1 with fail
  rw [HW.out]
  clear HW
  go_wp2_with fail
  refine CR.out.mono ?_
  clear CR
  rintro e w1 ⟨rfl, m, rfl, hm⟩
  have HM := Lib.hid hm
  clear hm
  go_wp2_with fail
  refine (CU.out _ HT.out).mono ?_
  clear CU
  rintro e w2 ⟨rfl, b2⟩
  replace BZ := BZ.below b2 BZ.lt
  replace BS := BS.below b2 BS.lt
  replace bW := bW.trans (b2.mono bW.size)
  clear b2 HT

  have c0 := some_cell (BS.cell 6) (v := .string s.en) rfl
  have f0 := BS.frozen 6
  go_upto_region 19 with fail
  obtain ⟨b, hb⟩ : ∃ b, refTake s x m .e = b := ⟨_, rfl⟩
  have BS2 : Blk (w2.setCell ⟨w.heap.size, 6, none⟩ (.string tt)) w.heap.size 26 (stpC b) := by
    rw [← hb]
    show Blk _ _ _ (stpC { s with en := refT x })
    rw [HTT.out]
    exact BS.set_ 6 (.string tt)
  have BZ2 := BZ.far (p := ⟨w.heap.size, 6, none⟩) (by show w.heap.size + 1 ≠ w.heap.size; omega) (.string tt)
  have hB2 := bW.setCell (p := ⟨w.heap.size, 6, none⟩) (Nat.le_refl _) (.string tt)
  have HB := Lib.hid hb
  clear hb c0 f0 BS BZ bW
  generalize w2.setCell ⟨w.heap.size, 6, none⟩ (.string tt) = w5 at *

  have g0 : w5.cell? ⟨w.heap.size, 0, none⟩ = some (.int .i64 b.kind) := BS2.cell 0
  have z0 := BZ2.cell 0
  have f0 := BZ2.frozen 0
  have g1 : w5.cell? ⟨w.heap.size, 1, none⟩ = some (.int .i64 b.n) := BS2.cell 1
  have z1 := BZ2.cell 1
  have f1 := BZ2.frozen 1
  have g2 : w5.cell? ⟨w.heap.size, 2, none⟩ = some (.int .i64 b.ticks) := BS2.cell 2
  have z2 := BZ2.cell 2
  have f2 := BZ2.frozen 2
  have g3 : w5.cell? ⟨w.heap.size, 3, none⟩ = some (.int .i64 b.tab) := BS2.cell 3
  have z3 := BZ2.cell 3
  have f3 := BZ2.frozen 3
  have g4 : w5.cell? ⟨w.heap.size, 4, none⟩ = some (.int .i64 b.lev) := BS2.cell 4
  have z4 := BZ2.cell 4
  have f4 := BZ2.frozen 4
  have g5 : w5.cell? ⟨w.heap.size, 5, none⟩ = some (.string b.key) := BS2.cell 5
  have z5 := BZ2.cell 5
  have f5 := BZ2.frozen 5
  have g6 : w5.cell? ⟨w.heap.size, 6, none⟩ = some (.string b.en) := BS2.cell 6
  have z6 := BZ2.cell 6
  have f6 := BZ2.frozen 6
  have g7 : w5.cell? ⟨w.heap.size, 7, none⟩ = some (.string b.val) := BS2.cell 7
  have z7 := BZ2.cell 7
  have f7 := BZ2.frozen 7
  have g8 : w5.cell? ⟨w.heap.size, 8, none⟩ = some (.int .i64 b.ctx) := BS2.cell 8
  have z8 := BZ2.cell 8
  have f8 := BZ2.frozen 8
  go_wp2_with fail
  have ZZ := ((((((((BZ2.set_ 0 (.int .i64 b.kind)).set_ 1 (.int .i64 b.n)).set_ 2 (.int .i64 b.ticks)).set_ 3 (.int .i64 b.tab)).set_ 4 (.int .i64 b.lev)).set_ 5 (.string b.key)).set_ 6 (.string b.en)).set_ 7 (.string b.val)).set_ 8 (.int .i64 b.ctx)
  have zz := ZZ.cell
  replace hB2 := hB2.setCell (p := ⟨w.heap.size + 1, 0, none⟩) (by show w.heap.size ≤ w.heap.size + 1; omega) (.int .i64 b.kind)
  replace hB2 := hB2.setCell (p := ⟨w.heap.size + 1, 1, none⟩) (by show w.heap.size ≤ w.heap.size + 1; omega) (.int .i64 b.n)
  replace hB2 := hB2.setCell (p := ⟨w.heap.size + 1, 2, none⟩) (by show w.heap.size ≤ w.heap.size + 1; omega) (.int .i64 b.ticks)
  replace hB2 := hB2.setCell (p := ⟨w.heap.size + 1, 3, none⟩) (by show w.heap.size ≤ w.heap.size + 1; omega) (.int .i64 b.tab)
  replace hB2 := hB2.setCell (p := ⟨w.heap.size + 1, 4, none⟩) (by show w.heap.size ≤ w.heap.size + 1; omega) (.int .i64 b.lev)
  replace hB2 := hB2.setCell (p := ⟨w.heap.size + 1, 5, none⟩) (by show w.heap.size ≤ w.heap.size + 1; omega) (.string b.key)
  replace hB2 := hB2.setCell (p := ⟨w.heap.size + 1, 6, none⟩) (by show w.heap.size ≤ w.heap.size + 1; omega) (.string b.en)
  replace hB2 := hB2.setCell (p := ⟨w.heap.size + 1, 7, none⟩) (by show w.heap.size ≤ w.heap.size + 1; omega) (.string b.val)
  replace hB2 := hB2.setCell (p := ⟨w.heap.size + 1, 8, none⟩) (by show w.heap.size ≤ w.heap.size + 1; omega) (.int .i64 b.ctx)
  exact bodyPost_ret (v := .agg (stpC b)) (by simp [results, Tryd.results22, go_sem, zz, stpC]) rfl ⟨m, HM.out, by rw [← HB.out]; rfl, hB2⟩

set_option maxRecDepth 100000 in
set_option maxHeartbeats 2000000 in
theorem ref40_take_v (s : Stp) (x : ByteArray) (w : World) (hT : Tabs w) (hx : x.size ≤ 1000) :
    Calls Tryd.prog 22 #[.agg (stpC s), .int .u8 ((codeR .v).toNat : Int), .string x] w fun e w' => ∃ m : Int, (∀ n : Nat, rd (bl x) = some n → m = n) ∧ e = .returned (.agg (stpC (refTake s x m .v))) ∧ Below w.heap.size w w' := by
  obtain ⟨W, hW⟩ : ∃ W, (w.alloc (.cells (stpC s) 26)).alloc (.cells #[.int .i64 0, .int .i64 0, .int .i64 0, .int .i64 0, .int .i64 0, .string ⟨#[]⟩, .string ⟨#[]⟩, .string ⟨#[]⟩, .int .i64 0] 26) = W := ⟨_, rfl⟩
  have bW : Below w.heap.size w W := by rw [← hW]; exact ((Below.refl _ _).alloc (Nat.le_refl _) _).alloc (by simp) _
  have BS : Blk W w.heap.size 26 (stpC s) := by rw [← hW]; exact (Blk.new _ _ _).alloc _
  have BZ : Blk W (w.heap.size + 1) 26 #[.int .i64 0, .int .i64 0, .int .i64 0, .int .i64 0, .int .i64 0, .string ⟨#[]⟩, .string ⟨#[]⟩, .string ⟨#[]⟩, .int .i64 0] := by
    have h := Blk.new (w.alloc (.cells (stpC s) 26)) 26 #[.int .i64 0, .int .i64 0, .int .i64 0, .int .i64 0, .int .i64 0, .string ⟨#[]⟩, .string ⟨#[]⟩, .string ⟨#[]⟩, .int .i64 0]
    rw [World.size_alloc] at h
    rw [← hW]
    exact h
  have HT := Lib.hid (hT.below bW)
  clear hT
  have CR := Lib.hid (ref02_Read x W (by omega))
  have CU := Lib.hid (fun w => ref01_Unquote x (by omega) w)
  rw [refV_eq] at CU
  obtain ⟨tt, htt⟩ : ∃ tt, refT x = tt := ⟨_, rfl⟩
  obtain ⟨tb, htb⟩ : ∃ tb, refB x = tb := ⟨_, rfl⟩
  rw [htt, htb] at CU
  have HTT := Lib.hid htt
  clear htt htb
  rw [show ((codeR .v).toNat : Int) = 86 from rfl]
  have HW := Lib.hid hW
  clear hW
  unfold stpC at HW ⊢
  go_enter Tryd.func22, Tryd.ntmps22
  go_upto_region 1 with fail
  rw [HW.out]
  clear HW
  go_wp2_with fail
  refine CR.out.mono ?_
  clear CR
  rintro e w1 ⟨rfl, m, rfl, hm⟩
  have HM := Lib.hid hm
  clear hm
  go_wp2_with fail
  refine (CU.out _ HT.out).mono ?_
  clear CU
  rintro e w2 ⟨rfl, b2⟩
  replace BZ := BZ.below b2 BZ.lt
  replace BS := BS.below b2 BS.lt
  replace bW := bW.trans (b2.mono bW.size)
  clear b2 HT

  have c0 := some_cell (BS.cell 7) (v := .string s.val) rfl
  have f0 := BS.frozen 7
  go_upto_region 19 with fail
  obtain ⟨b, hb⟩ : ∃ b, refTake s x m .v = b := ⟨_, rfl⟩
  have BS2 : Blk (w2.setCell ⟨w.heap.size, 7, none⟩ (.string tt)) w.heap.size 26 (stpC b) := by
    rw [← hb]
    show Blk _ _ _ (stpC { s with val := refT x })
    rw [HTT.out]
    exact BS.set_ 7 (.string tt)
  have BZ2 := BZ.far (p := ⟨w.heap.size, 7, none⟩) (by show w.heap.size + 1 ≠ w.heap.size; omega) (.string tt)
  have hB2 := bW.setCell (p := ⟨w.heap.size, 7, none⟩) (Nat.le_refl _) (.string tt)
  have HB := Lib.hid hb
  clear hb c0 f0 BS BZ bW
  generalize w2.setCell ⟨w.heap.size, 7, none⟩ (.string tt) = w5 at *

  have g0 : w5.cell? ⟨w.heap.size, 0, none⟩ = some (.int .i64 b.kind) := BS2.cell 0
  have z0 := BZ2.cell 0
  have f0 := BZ2.frozen 0
  have g1 : w5.cell? ⟨w.heap.size, 1, none⟩ = some (.int .i64 b.n) := BS2.cell 1
  have z1 := BZ2.cell 1
  have f1 := BZ2.frozen 1
  have g2 : w5.cell? ⟨w.heap.size, 2, none⟩ = some (.int .i64 b.ticks) := BS2.cell 2
  have z2 := BZ2.cell 2
  have f2 := BZ2.frozen 2
  have g3 : w5.cell? ⟨w.heap.size, 3, none⟩ = some (.int .i64 b.tab) := BS2.cell 3
  have z3 := BZ2.cell 3
  have f3 := BZ2.frozen 3
  have g4 : w5.cell? ⟨w.heap.size, 4, none⟩ = some (.int .i64 b.lev) := BS2.cell 4
  have z4 := BZ2.cell 4
  have f4 := BZ2.frozen 4
  have g5 : w5.cell? ⟨w.heap.size, 5, none⟩ = some (.string b.key) := BS2.cell 5
  have z5 := BZ2.cell 5
  have f5 := BZ2.frozen 5
  have g6 : w5.cell? ⟨w.heap.size, 6, none⟩ = some (.string b.en) := BS2.cell 6
  have z6 := BZ2.cell 6
  have f6 := BZ2.frozen 6
  have g7 : w5.cell? ⟨w.heap.size, 7, none⟩ = some (.string b.val) := BS2.cell 7
  have z7 := BZ2.cell 7
  have f7 := BZ2.frozen 7
  have g8 : w5.cell? ⟨w.heap.size, 8, none⟩ = some (.int .i64 b.ctx) := BS2.cell 8
  have z8 := BZ2.cell 8
  have f8 := BZ2.frozen 8
  go_wp2_with fail
  have ZZ := ((((((((BZ2.set_ 0 (.int .i64 b.kind)).set_ 1 (.int .i64 b.n)).set_ 2 (.int .i64 b.ticks)).set_ 3 (.int .i64 b.tab)).set_ 4 (.int .i64 b.lev)).set_ 5 (.string b.key)).set_ 6 (.string b.en)).set_ 7 (.string b.val)).set_ 8 (.int .i64 b.ctx)
  have zz := ZZ.cell
  replace hB2 := hB2.setCell (p := ⟨w.heap.size + 1, 0, none⟩) (by show w.heap.size ≤ w.heap.size + 1; omega) (.int .i64 b.kind)
  replace hB2 := hB2.setCell (p := ⟨w.heap.size + 1, 1, none⟩) (by show w.heap.size ≤ w.heap.size + 1; omega) (.int .i64 b.n)
  replace hB2 := hB2.setCell (p := ⟨w.heap.size + 1, 2, none⟩) (by show w.heap.size ≤ w.heap.size + 1; omega) (.int .i64 b.ticks)
  replace hB2 := hB2.setCell (p := ⟨w.heap.size + 1, 3, none⟩) (by show w.heap.size ≤ w.heap.size + 1; omega) (.int .i64 b.tab)
  replace hB2 := hB2.setCell (p := ⟨w.heap.size + 1, 4, none⟩) (by show w.heap.size ≤ w.heap.size + 1; omega) (.int .i64 b.lev)
  replace hB2 := hB2.setCell (p := ⟨w.heap.size + 1, 5, none⟩) (by show w.heap.size ≤ w.heap.size + 1; omega) (.string b.key)
  replace hB2 := hB2.setCell (p := ⟨w.heap.size + 1, 6, none⟩) (by show w.heap.size ≤ w.heap.size + 1; omega) (.string b.en)
  replace hB2 := hB2.setCell (p := ⟨w.heap.size + 1, 7, none⟩) (by show w.heap.size ≤ w.heap.size + 1; omega) (.string b.val)
  replace hB2 := hB2.setCell (p := ⟨w.heap.size + 1, 8, none⟩) (by show w.heap.size ≤ w.heap.size + 1; omega) (.int .i64 b.ctx)
  exact bodyPost_ret (v := .agg (stpC b)) (by simp [results, Tryd.results22, go_sem, zz, stpC]) rfl ⟨m, HM.out, by rw [← HB.out]; rfl, hB2⟩

theorem ref40_take (s : Stp) (p : Pt) (x : ByteArray) (w : World) (hT : Tabs w) (hx : x.size ≤ 1000) :
    Calls Tryd.prog 22 #[.agg (stpC s), .int .u8 ((codeR p).toNat : Int), .string x] w fun e w' => ∃ m : Int, (∀ n : Nat, rd (bl x) = some n → m = n) ∧ e = .returned (.agg (stpC (refTake s x m p))) ∧ Below w.heap.size w w' := by
  cases p
  · exact ref40_take_n s x w hT hx
  · exact ref40_take_t s x w hT hx
  · exact ref40_take_c s x w hT hx
  · exact ref40_take_a s x w hT hx
  · exact ref40_take_l s x w hT hx
  · exact ref40_take_k s x w hT hx
  · exact ref40_take_e s x w hT hx
  · exact ref40_take_v s x w hT hx
end Go.Proofs.YtimmfcbpdnlfjaaDoor
