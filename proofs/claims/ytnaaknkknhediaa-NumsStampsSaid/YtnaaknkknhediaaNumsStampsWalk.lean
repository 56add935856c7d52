/- The walk of the law NumsStamps: it returns true, and nothing that was there ahead of the call has turned. -/
import Derived.Test.YtnaaknkknhediaaNumsH
import Derived.StillTailTactics
import Derived.Deep.RegionHeld3
namespace Go.Proofs.Ytnaaknkknhediaa
open Go.RowKit Go.Sort

theorem rdS_stamp (p l q : Int) : rdS (stampText p l q) = some ((cut50 p).toNat, (cut50 l).toNat, (cut50 q).toNat) := by
  have h : ∀ n : Int, (num n).all isD = true ∧ rd (num n) = some (cut50 n).toNat := fun n =>
    ⟨(dec_big _).2.1, rd_dec _ (by have := cut50_range n; omega)⟩
  unfold rdS stampText
  rw [parts_three _ _ _ (h p).1 (h l).1 (h q).1]
  exact all3_some (h p).2 (h l).2 (h q).2
theorem readStamp_back (p l q : Int) (w : World) : Calls Try.prog 36 #[.string ⟨(stampText p l q).toArray⟩] w fun e w' =>
    e = .returned (.tuple #[.agg #[.int .i64 (cut50 p), .int .i64 (cut50 l), .int .i64 (cut50 q)], .int .i64 0]) ∧ Below w.heap.size w w' := by
  have h1 := num_length p
  have h2 := num_length l
  have h3 := num_length q
  have r1 := cut50_range p
  have r2 := cut50_range l
  have r3 := cut50_range q
  refine (nums_ReadStamp ⟨(stampText p l q).toArray⟩ w (by simp [ByteArray.size, stampText]; omega)).mono fun e w' ⟨he, hb⟩ => ⟨?_, hb⟩
  have e1 : bl ⟨(stampText p l q).toArray⟩ = stampText p l q := rfl
  rw [he, e1, rdS_stamp]
  unfold rsV
  simp only
  rw [Int.toNat_of_nonneg r1.1, Int.toNat_of_nonneg r2.1, Int.toNat_of_nonneg r3.1]

set_option maxRecDepth 100000 in
set_option maxHeartbeats 4000000 in
theorem nums_stamps_walk (w : World) (a0 a1 a2 : Int) (_ : (Lit.int .i64 a0).wf = true) (_ : (Lit.int .i64 a1).wf = true) (_ : (Lit.int .i64 a2).wf = true) (s : ByteArray) (hs : s.size ≤ maxLen) :
    Calls Try.prog 7 #[.agg #[.int .i64 a0, .int .i64 a1, .int .i64 a2], .string s] w fun e w' => e = .returned (.bool true) ∧ Below w.heap.size w w' := by
  unfold maxLen at hs
  by_cases hlong : 1000 < s.size
  · go_enter Try.func7, Try.ntmps7
    go_wp2_with fail
    go_ret
    exact ⟨rfl, (Below.refl _ _).alloc (Nat.le_refl _) _⟩
  have h1000 : s.size ≤ 1000 := by omega
  have HC1 := Lib.hid (fun w => nums_ReadStamp s w (by omega))
  have HC2 := Lib.hid (fun w => ref02_ReadStamp s w (by omega))
  obtain ⟨o, ho⟩ : ∃ o, rdS (bl s) = o := ⟨_, rfl⟩
  rw [ho] at HC1 HC2
  clear ho
  have BS := Blk.new w 51 #[.int .i64 a0, .int .i64 a1, .int .i64 a2]
  have hB : Below w.heap.size w (w.alloc (.cells #[.int .i64 a0, .int .i64 a1, .int .i64 a2] 51)) := (Below.refl _ _).alloc (Nat.le_refl _) _
  go_enter Try.func7, Try.ntmps7
  go_wp2_with fail
  generalize w.alloc (.cells #[.int .i64 a0, .int .i64 a1, .int .i64 a2] 51) = W at *
  refine (HC1.out W).mono ?_
  rintro e w1 ⟨rfl, b1⟩
  replace BS := BS.below b1 BS.lt
  replace hB := hB.trans (b1.mono hB.size)
  clear b1 HC1
  obtain ⟨x, y, z, e0, hS, hN⟩ : ∃ x y z e0 : Int, rsV o = .tuple #[.agg #[.int .i64 x, .int .i64 y, .int .i64 z], .int .i64 e0] ∧ ((o = none ∧ x = 0 ∧ y = 0 ∧ z = 0 ∧ e0 = 20) ∨ ∃ a b c : Nat, o = some (a, b, c) ∧ x = a ∧ y = b ∧ z = c ∧ e0 = 0) := by
    cases o with
    | none => exact ⟨0, 0, 0, 20, rfl, .inl ⟨rfl, rfl, rfl, rfl, rfl⟩⟩
    | some t => exact ⟨t.1, t.2.1, t.2.2, 0, rfl, .inr ⟨t.1, t.2.1, t.2.2, rfl, rfl, rfl, rfl, rfl⟩⟩
  rw [hS]
  clear hS
  have HN := Lib.hid hN
  clear hN
  go_wp2_with fail
  have hN := HN.out
  clear HN
  replace BS := BS.alloc (.cells #[.int .i64 x, .int .i64 y, .int .i64 z] 51)
  replace hB := hB.alloc hB.size (.cells #[.int .i64 x, .int .i64 y, .int .i64 z] 51)
  have BM := Blk.new w1 51 #[.int .i64 x, .int .i64 y, .int .i64 z]
  generalize w1.alloc (.cells #[.int .i64 x, .int .i64 y, .int .i64 z] 51) = W1 at *
  generalize w1.heap.size = gm at *
  refine (HC2.out W1).mono ?_
  rintro e w2 ⟨⟨x', y', z', rfl, hv⟩, b2⟩
  replace BS := BS.below b2 BS.lt
  replace BM := BM.below b2 BM.lt
  replace hB := hB.trans (b2.mono hB.size)
  clear b2 HC2
  have HV := Lib.hid hv
  clear hv
  have HN := Lib.hid hN
  clear hN
  go_upto_region 5 with fail
  have hN := HN.out
  clear HN
  replace BS := BS.alloc (.cells #[.int .i64 x', .int .i64 y', .int .i64 z'] 51)
  replace BM := BM.alloc (.cells #[.int .i64 x', .int .i64 y', .int .i64 z'] 51)
  replace hB := hB.alloc hB.size (.cells #[.int .i64 x', .int .i64 y', .int .i64 z'] 51)
  have BK := Blk.new w2 51 #[.int .i64 x', .int .i64 y', .int .i64 z']
  generalize w2.alloc (.cells #[.int .i64 x', .int .i64 y', .int .i64 z'] 51) = W2 at *
  generalize w2.heap.size = gk at *
  have cm := BM.cell
  have ck := BK.cell
  rcases hN with ⟨rfl, rfl, rfl, rfl, rfl⟩ | ⟨a, b, c, rfl, rfl, rfl, rfl, rfl⟩
  · go_upto_region 7 with fail
    clear cm ck BM BK HV
    have cs := BS.cell
    go_wp2_with fail
    refine (nums_Stamp a0 a1 a2 _).mono ?_
    rintro e w3 ⟨rfl, b3⟩
    replace BS := BS.below b3 BS.lt
    replace hB := hB.trans (b3.mono hB.size)
    clear b3 cs
    go_wp2_with fail
    refine (readStamp_back a0 a1 a2 _).mono ?_
    rintro e w4 ⟨rfl, b4⟩
    replace BS := BS.below b4 BS.lt
    replace hB := hB.trans (b4.mono hB.size)
    clear b4
    go_upto_region 8 with fail
    replace BS := BS.alloc (.cells #[.int .i64 (cut50 a0), .int .i64 (cut50 a1), .int .i64 (cut50 a2)] 51)
    replace hB := hB.alloc hB.size (.cells #[.int .i64 (cut50 a0), .int .i64 (cut50 a1), .int .i64 (cut50 a2)] 51)
    have BB := Blk.new w4 51 #[.int .i64 (cut50 a0), .int .i64 (cut50 a1), .int .i64 (cut50 a2)]
    generalize w4.alloc (.cells #[.int .i64 (cut50 a0), .int .i64 (cut50 a1), .int .i64 (cut50 a2)] 51) = W3 at *
    generalize w4.heap.size = gb at *
    have cs := BS.cell
    have n0 := World.new_ne W3 ⟨w.heap.size, 0, none⟩ (cs 0)
    have n1 := World.new_ne W3 ⟨w.heap.size, 1, none⟩ (cs 1)
    have n2 := World.new_ne W3 ⟨w.heap.size, 2, none⟩ (cs 2)
    go_region_held3 (fun w' => w'.cell? ⟨w.heap.size, 0, none⟩ = some (.int .i64 a0) ∧ w'.cell? ⟨w.heap.size, 1, none⟩ = some (.int .i64 a1) ∧ w'.cell? ⟨w.heap.size, 2, none⟩ = some (.int .i64 a2)) (go_keep) (first | (go_at_call 16; refine (ref02_Cut _ _).mono ?_; rintro e w' ⟨rfl, rfl⟩))
    all_goals
      go_upto_region 9 with fail
      replace BS := (BS.alloc (.cells #[.int .i64 (cut50 a0), .int .i64 (cut50 a1), .int .i64 (cut50 a2)] 51)).drew
      replace hB := below_drewN (hB.alloc hB.size (.cells #[.int .i64 (cut50 a0), .int .i64 (cut50 a1), .int .i64 (cut50 a2)] 51)) 1
      replace BB := (BB.alloc (.cells #[.int .i64 (cut50 a0), .int .i64 (cut50 a1), .int .i64 (cut50 a2)] 51)).drew
      have BW := (Blk.new W3 51 #[.int .i64 (cut50 a0), .int .i64 (cut50 a1), .int .i64 (cut50 a2)]).drew
      replace hB : Below w.heap.size w (W3.alloc (.cells #[.int .i64 (cut50 a0), .int .i64 (cut50 a1), .int .i64 (cut50 a2)] 51)).drew := hB
      generalize (W3.alloc (.cells #[.int .i64 (cut50 a0), .int .i64 (cut50 a1), .int .i64 (cut50 a2)] 51)).drew = Z at *
      generalize W3.heap.size = gw at *
      clear cs
      have s0 := cell_regrown (show Z.cell? ⟨w.heap.size, 0, none⟩ = some (.int .i64 a0) by simpa using BS.cell 0)
      have s1 := cell_regrown (show Z.cell? ⟨w.heap.size, 1, none⟩ = some (.int .i64 a1) by simpa using BS.cell 1)
      have s2 := cell_regrown (show Z.cell? ⟨w.heap.size, 2, none⟩ = some (.int .i64 a2) by simpa using BS.cell 2)
      have t0 := cell_regrown (show Z.cell? ⟨gb, 0, none⟩ = some (.int .i64 (cut50 a0)) by simpa using BB.cell 0)
      have t1 := cell_regrown (show Z.cell? ⟨gb, 1, none⟩ = some (.int .i64 (cut50 a1)) by simpa using BB.cell 1)
      have t2 := cell_regrown (show Z.cell? ⟨gb, 2, none⟩ = some (.int .i64 (cut50 a2)) by simpa using BB.cell 2)
      have u0 := cell_regrown (show Z.cell? ⟨gw, 0, none⟩ = some (.int .i64 (cut50 a0)) by simpa using BW.cell 0)
      have u1 := cell_regrown (show Z.cell? ⟨gw, 1, none⟩ = some (.int .i64 (cut50 a1)) by simpa using BW.cell 1)
      have u2 := cell_regrown (show Z.cell? ⟨gw, 2, none⟩ = some (.int .i64 (cut50 a2)) by simpa using BW.cell 2)
      have k1 : ∀ d os, Calls Try.prog 38 #[.agg #[.int .i64 a0, .int .i64 a1, .int .i64 a2]] (grow (redrawn Z d) os) fun e w'' => e = .returned (.string ⟨(stampText a0 a1 a2).toArray⟩) ∧ ∃ p : Regrown, w'' = grow (redrawn Z p.d) p.os := fun d os => Calls.regrown_of (nums_Stamp _ _ _ _)
      have k2 : ∀ d os, Calls Try.prog 39 #[.agg #[.int .i64 a0, .int .i64 a1, .int .i64 a2]] (grow (redrawn Z d) os) fun e w'' => e = .returned (.string ⟨(stampText a0 a1 a2).toArray⟩) ∧ ∃ p : Regrown, w'' = grow (redrawn Z p.d) p.os := fun d os => Calls.regrown_of (ref02_Stamp _ _ _ _)
      have k3 : ∀ d os, Calls Try.prog 17 #[] (grow (redrawn Z d) os) fun e w'' => e = .returned (.bool true) ∧ ∃ p : Regrown, w'' = grow (redrawn Z p.d) p.os := fun d os => Calls.regrown_of (alive02 _)
      refine wp_region_quiet_below (by kernel_rfl) (by kernel_rfl) ?_
      repeat (go_big_quiet_step (first | exact k1 _ _ | exact k2 _ _ | exact k3 _ _))
      refine wpQuiet_nil ?_
      intro _ hw'
      obtain ⟨⟨dq, osq⟩, hw''⟩ := hw'
      subst hw''
      replace hB := below_regrown_of hB hB.size dq osq
      clear s0 s1 s2 t0 t1 t2 u0 u1 u2 k1 k2 k3 BS BB BW
      go_wp2_with fail
      go_ret
      exact ⟨rfl, hB⟩
  · obtain ⟨rfl, rfl, rfl⟩ := HV.out a b c rfl
    go_upto_region 7 with fail
    clear cm ck BM BK HV
    have cs := BS.cell
    go_wp2_with fail
    refine (nums_Stamp a0 a1 a2 _).mono ?_
    rintro e w3 ⟨rfl, b3⟩
    replace BS := BS.below b3 BS.lt
    replace hB := hB.trans (b3.mono hB.size)
    clear b3 cs
    go_wp2_with fail
    refine (readStamp_back a0 a1 a2 _).mono ?_
    rintro e w4 ⟨rfl, b4⟩
    replace BS := BS.below b4 BS.lt
    replace hB := hB.trans (b4.mono hB.size)
    clear b4
    go_upto_region 8 with fail
    replace BS := BS.alloc (.cells #[.int .i64 (cut50 a0), .int .i64 (cut50 a1), .int .i64 (cut50 a2)] 51)
    replace hB := hB.alloc hB.size (.cells #[.int .i64 (cut50 a0), .int .i64 (cut50 a1), .int .i64 (cut50 a2)] 51)
    have BB := Blk.new w4 51 #[.int .i64 (cut50 a0), .int .i64 (cut50 a1), .int .i64 (cut50 a2)]
    generalize w4.alloc (.cells #[.int .i64 (cut50 a0), .int .i64 (cut50 a1), .int .i64 (cut50 a2)] 51) = W3 at *
    generalize w4.heap.size = gb at *
    have cs := BS.cell
    have n0 := World.new_ne W3 ⟨w.heap.size, 0, none⟩ (cs 0)
    have n1 := World.new_ne W3 ⟨w.heap.size, 1, none⟩ (cs 1)
    have n2 := World.new_ne W3 ⟨w.heap.size, 2, none⟩ (cs 2)
    go_region_held3 (fun w' => w'.cell? ⟨w.heap.size, 0, none⟩ = some (.int .i64 a0) ∧ w'.cell? ⟨w.heap.size, 1, none⟩ = some (.int .i64 a1) ∧ w'.cell? ⟨w.heap.size, 2, none⟩ = some (.int .i64 a2)) (go_keep) (first | (go_at_call 16; refine (ref02_Cut _ _).mono ?_; rintro e w' ⟨rfl, rfl⟩))
    all_goals
      go_upto_region 9 with fail
      replace BS := (BS.alloc (.cells #[.int .i64 (cut50 a0), .int .i64 (cut50 a1), .int .i64 (cut50 a2)] 51)).drew
      replace hB := below_drewN (hB.alloc hB.size (.cells #[.int .i64 (cut50 a0), .int .i64 (cut50 a1), .int .i64 (cut50 a2)] 51)) 1
      replace BB := (BB.alloc (.cells #[.int .i64 (cut50 a0), .int .i64 (cut50 a1), .int .i64 (cut50 a2)] 51)).drew
      have BW := (Blk.new W3 51 #[.int .i64 (cut50 a0), .int .i64 (cut50 a1), .int .i64 (cut50 a2)]).drew
      replace hB : Below w.heap.size w (W3.alloc (.cells #[.int .i64 (cut50 a0), .int .i64 (cut50 a1), .int .i64 (cut50 a2)] 51)).drew := hB
      generalize (W3.alloc (.cells #[.int .i64 (cut50 a0), .int .i64 (cut50 a1), .int .i64 (cut50 a2)] 51)).drew = Z at *
      generalize W3.heap.size = gw at *
      clear cs
      have s0 := cell_regrown (show Z.cell? ⟨w.heap.size, 0, none⟩ = some (.int .i64 a0) by simpa using BS.cell 0)
      have s1 := cell_regrown (show Z.cell? ⟨w.heap.size, 1, none⟩ = some (.int .i64 a1) by simpa using BS.cell 1)
      have s2 := cell_regrown (show Z.cell? ⟨w.heap.size, 2, none⟩ = some (.int .i64 a2) by simpa using BS.cell 2)
      have t0 := cell_regrown (show Z.cell? ⟨gb, 0, none⟩ = some (.int .i64 (cut50 a0)) by simpa using BB.cell 0)
      have t1 := cell_regrown (show Z.cell? ⟨gb, 1, none⟩ = some (.int .i64 (cut50 a1)) by simpa using BB.cell 1)
      have t2 := cell_regrown (show Z.cell? ⟨gb, 2, none⟩ = some (.int .i64 (cut50 a2)) by simpa using BB.cell 2)
      have u0 := cell_regrown (show Z.cell? ⟨gw, 0, none⟩ = some (.int .i64 (cut50 a0)) by simpa using BW.cell 0)
      have u1 := cell_regrown (show Z.cell? ⟨gw, 1, none⟩ = some (.int .i64 (cut50 a1)) by simpa using BW.cell 1)
      have u2 := cell_regrown (show Z.cell? ⟨gw, 2, none⟩ = some (.int .i64 (cut50 a2)) by simpa using BW.cell 2)
      have k1 : ∀ d os, Calls Try.prog 38 #[.agg #[.int .i64 a0, .int .i64 a1, .int .i64 a2]] (grow (redrawn Z d) os) fun e w'' => e = .returned (.string ⟨(stampText a0 a1 a2).toArray⟩) ∧ ∃ p : Regrown, w'' = grow (redrawn Z p.d) p.os := fun d os => Calls.regrown_of (nums_Stamp _ _ _ _)
      have k2 : ∀ d os, Calls Try.prog 39 #[.agg #[.int .i64 a0, .int .i64 a1, .int .i64 a2]] (grow (redrawn Z d) os) fun e w'' => e = .returned (.string ⟨(stampText a0 a1 a2).toArray⟩) ∧ ∃ p : Regrown, w'' = grow (redrawn Z p.d) p.os := fun d os => Calls.regrown_of (ref02_Stamp _ _ _ _)
      have k3 : ∀ d os, Calls Try.prog 17 #[] (grow (redrawn Z d) os) fun e w'' => e = .returned (.bool true) ∧ ∃ p : Regrown, w'' = grow (redrawn Z p.d) p.os := fun d os => Calls.regrown_of (alive02 _)
      refine wp_region_quiet_below (by kernel_rfl) (by kernel_rfl) ?_
      repeat (go_big_quiet_step (first | exact k1 _ _ | exact k2 _ _ | exact k3 _ _))
      refine wpQuiet_nil ?_
      intro _ hw'
      obtain ⟨⟨dq, osq⟩, hw''⟩ := hw'
      subst hw''
      replace hB := below_regrown_of hB hB.size dq osq
      clear s0 s1 s2 t0 t1 t2 u0 u1 u2 k1 k2 k3 BS BB BW
      go_wp2_with fail
      go_ret
      exact ⟨rfl, hB⟩
end Go.Proofs.Ytnaaknkknhediaa
