/- The walk of the law FrameReads: it returns true, and nothing that was there ahead of the call has turned. -/
import Derived.Test.YtfebncpfhdgkpaaFrameF
import Derived.Test.YtfebncpfhdgkpaaFrameG
import Derived.Test.YtfebncpfhdgkpaaMix
namespace Go.Proofs.Ytfebncpfhdgkpaa
open Go.RowKit Go.Sort

theorem frA_lens : ∀ (k : Nat) (l : List UInt8), l.length = k → (frA l).1.length ≤ l.length ∧ ∀ r ∈ (frA l).1, r.length ≤ l.length := by
  intro k
  induction k using Nat.strongRecOn with
  | _ k ih =>
    intro l hl
    by_cases h : l = [] ∨ (fr1 l).2.2 ≠ 0
    · rw [frA_stop l h]; simp
    · have h0 : l ≠ [] := fun e => h (.inl e)
      have h1 : (fr1 l).2.2 = 0 := Classical.byContradiction fun e => h (.inr e)
      obtain ⟨p1, p2, p3⟩ := fr1_pos l h1
      have hd : (l.drop (fr1 l).2.1).length = l.length - (fr1 l).2.1 := List.length_drop
      obtain ⟨q1, q2⟩ := ih _ (by omega) (l.drop (fr1 l).2.1) rfl
      rw [frA_step l h0 h1]
      refine ⟨by simp only [List.length_cons]; omega, fun r hr => ?_⟩
      rcases List.mem_cons.1 hr with e | e
      · rw [e]; omega
      · have := q2 r e; omega

theorem own_sep {B : Nat} {v v2 : Value} (h : ∀ k, v.ownBlock = some k → k < B) (h2 : ∀ k, v2.ownBlock = some k → B ≤ k) : v.ownBlock = none ∨ v.ownBlock ≠ v2.ownBlock := by
  rcases e : v.ownBlock with _ | k
  · exact .inl rfl
  · exact .inr (fun e2 => by have := h k e; have := h2 k e2.symm; omega)
theorem hb_cell {w w' : World} {p : Addr} {v : Value} (h : Below w.heap.size w w') (q : w.cell? p = some v) : w'.cell? p = some v := (h.cell (block_lt_of_cell q)).trans q

set_option maxRecDepth 100000 in
set_option maxHeartbeats 4000000 in
theorem frame_reads_walk (w : World) (A : Option Addr) (n c : Nat) (l : List UInt8) (hnc : n ≤ c) (_ : c ≤ maxLen) (hll : l.length = n) (hr : Reads w w.heap.size 1 A n (l.map vb)) (hA : A = none → c = 0)
    (A' : Option Addr) (n' c' : Nat) (l' : List UInt8) (_ : n' ≤ c') (_ : c' ≤ maxLen) (hll' : l'.length = n') (hr' : Reads w w.heap.size 1 A' n' (l'.map vb)) (_ : A' = none → c' = 0) :
    Calls Try.prog 7 #[.slice A n c, .slice A' n' c'] w fun e w' => e = .returned (.bool true) ∧ Below w.heap.size w w' := by
  by_cases hbig : 3000 < n
  · have hd : decide (3000 < (n : Int)) = true := by simp; omega
    clear hA hll hr hr' hll'
    go_enter Try.func7, Try.ntmps7
    go_wp2_with fail
    go_ret
    exact ⟨rfl, Below.refl _ _⟩
  have hd : decide (3000 < (n : Int)) = false := by simp; omega
  by_cases hbig' : 3000 < n'
  · have hd' : decide (3000 < (n' : Int)) = true := by simp; omega
    clear hA hll hr hr' hll'
    go_enter Try.func7, Try.ntmps7
    go_wp2_with fail
    go_ret
    exact ⟨rfl, Below.refl _ _⟩
  have hd' : decide (3000 < (n' : Int)) = false := by simp; omega
  have HR := Lib.hid hr
  have HL := Lib.hid hll
  have HA := Lib.hid hA
  have HR' := Lib.hid hr'
  have HL' := Lib.hid hll'
  have HC := Lib.hid (ref12_All A n c l w hr hnc (by omega))
  clear hr hll hA hr' hll'
  go_enter Try.func7, Try.ntmps7
  go_wp2_with fail
  refine HC.out.mono ?_
  rintro e w1 ⟨v5, rs, rfl, O5, hrs, hx, hB⟩
  clear HC
  obtain ⟨A5, c5, rfl, hc5, _, R5⟩ := O5.reads
  have HRS := Lib.hid hrs
  have HX := Lib.hid hx
  have R5' := Lib.hid R5
  clear O5 hrs hx R5
  have HC := Lib.hid (bytes_Clone A n c l w1 ((HR.out.below hB).more hB.size) HA.out (by omega))
  go_wp2_with fail
  refine HC.out.mono ?_
  rintro e w2 ⟨v2, rfl, O2, b2⟩
  clear HC
  replace hB := hB.trans (b2.mono hB.size)
  have h1 := b2
  obtain ⟨A2, c2, rfl, hc2, R2⟩ := O2.reads
  rw [HL.out] at R2 hc2 ⊢
  have HC := Lib.hid (frame_Last A2 n c2 l w2 R2 hc2 (by omega))
  clear O2 R2 b2
  go_wp2_with fail
  refine HC.out.mono ?_
  rintro e w3 ⟨v7, rfl, hv7, b3⟩
  clear HC
  replace hB := hB.trans (b3.mono hB.size)
  replace h1 := h1.trans (b3.mono h1.size)
  obtain ⟨A7, n7, c7, l7, rfl, hl7, R7⟩ : ∃ A7 n7 c7 l7, v7 = .slice A7 n7 c7 ∧ ((frA l).1 = [] ∧ n7 = 0 ∨ ∃ init, (frA l).1 = init ++ [l7]) ∧ Reads w3 w3.heap.size 1 A7 n7 (l7.map vb) := by
    rcases hv7 with ⟨h, rfl⟩ | ⟨init, r0, h, hO⟩
    · exact ⟨none, 0, 0, [], rfl, .inl ⟨h, rfl⟩, Reads.none_⟩
    · obtain ⟨A7, c7, h2, _, h3⟩ := hO.reads
      exact ⟨A7, _, c7, r0, h2, .inr ⟨init, h⟩, h3⟩
  have HL7 := Lib.hid hl7
  have R7' := Lib.hid R7
  have h3 := Below.refl w3.heap.size w3
  clear hv7 hl7 R7
  obtain ⟨y, hy⟩ : ∃ y, (!(frA l).1.isEmpty) = y := ⟨_, rfl⟩
  rw [hy]
  have HY := Lib.hid hy
  have hdl : decide (0 < rs.length) = y := by
    rw [← hy, ← HRS.out]
    cases rs <;> simp
  have hne : ((!y) == y) = false := by cases y <;> rfl
  clear hy
  have HC := Lib.hid (bytes_Clone A n c l w3 ((HR.out.below hB).more hB.size) HA.out (by omega))
  go_wp2_with fail
  refine HC.out.mono ?_
  rintro e w4 ⟨v4, rfl, O4, b4⟩
  clear HC
  replace hB := hB.trans (b4.mono hB.size)
  replace h1 := h1.trans (b4.mono h1.size)
  replace h3 := h3.trans (b4.mono h3.size)
  obtain ⟨A4, c4, rfl, hc4, R4⟩ := O4.reads
  rw [HL.out] at R4 hc4 ⊢
  have HC := Lib.hid (law12_all A4 n c4 l w4 R4 hc4 (by omega))
  clear O4 R4 b4
  go_wp2_with fail
  refine HC.out.mono ?_
  rintro e w5 ⟨v6, rt, rfl, O6, hrt, hxt, b5⟩
  clear HC
  replace hB := hB.trans (b5.mono hB.size)
  replace h1 := h1.trans (b5.mono h1.size)
  replace h3 := h3.trans (b5.mono h3.size)
  obtain ⟨A6, c6, rfl, hc6, _, R6⟩ := O6.reads
  have h8 := (law12_same A6 A5 rt.length rs.length c6 c5 rt rs w5 R6 ((R5'.out.below h1).more h1.size) (fun x hx => by
    obtain ⟨A9, c9, h4, _, h5⟩ := (hxt x hx).reads
    exact ⟨A9, c9, h4, h5⟩) (fun x hx => ((HX.out x hx).below hB).more hB.size) (by have h8 := (frA_lens _ l rfl).1; rw [← hrt, List.length_map] at h8; have := HL.out; omega) (fun x hx => by have h8 := (frA_lens _ l rfl).2 x.2 (by rw [← hrt]; exact List.mem_map_of_mem hx); have := HL.out; omega))
  rw [decide_eq_true (hrt.trans HRS.out.symm)] at h8
  have HC := Lib.hid h8
  clear h8
  clear O6 R6 hrt hxt b5
  go_wp2_with fail
  refine HC.out.mono ?_
  rintro e w6 ⟨rfl, b6⟩
  clear HC
  replace hB := hB.trans (b6.mono hB.size)
  replace h1 := h1.trans (b6.mono h1.size)
  replace h3 := h3.trans (b6.mono h3.size)
  clear b6
  have HC := Lib.hid (frame_Whole A n c l w6 ((HR.out.below hB).more hB.size) hnc (by omega))
  go_wp2_with fail
  refine HC.out.mono ?_
  rintro e w7 ⟨rfl, b7⟩
  clear HC
  replace hB := hB.trans (b7.mono hB.size)
  replace h1 := h1.trans (b7.mono h1.size)
  replace h3 := h3.trans (b7.mono h3.size)
  clear b7
  cases y
  case' false =>
    have hq : rs.length = 0 := by simpa using hdl
    have hq7 : n7 = 0 := by
      have h8 := HY.out
      rcases HL7.out with ⟨_, h9⟩ | ⟨init, h9⟩
      · exact h9
      · rw [h9] at h8; simp at h8
    subst hq7
    rw [hq]
    go_upto_region 7 with fail
    refine wp_region_quiet_below (by kernel_rfl) (by kernel_rfl) ?_
    repeat (go_big_quiet_step (fail))
    refine wpQuiet_nil ?_
    intro _ hw'
    obtain ⟨⟨dq, osq⟩, hw''⟩ := hw'
    subst hw''
    have bq := below_regrown w7 dq osq
    replace hB := hB.trans (bq.mono hB.size)
    clear bq h1 h3
    generalize grow (redrawn w7 dq) osq = w8 at *
  case' true =>
    obtain ⟨k, hk⟩ : ∃ k, rs.length = k + 1 := ⟨rs.length - 1, by have h8 : 0 < rs.length := of_decide_eq_true hdl; omega⟩
    obtain ⟨b5, o5, rfl, hb5, hc⟩ := Reads.form (R5'.out.below h1) (by omega)
    have q0 := hc 0 rs[0].1 (by rw [List.getElem?_map, List.getElem?_eq_getElem (by omega)]; rfl)
    have qk := hc k rs[k].1 (by rw [List.getElem?_map, List.getElem?_eq_getElem (by omega)]; rfl)
    obtain ⟨B0, d0, e0, R0⟩ := HX.out rs[0] (List.getElem_mem _)
    obtain ⟨Bk, dk, ek, Rk⟩ := HX.out rs[k] (List.getElem_mem _)
    rw [e0] at q0
    rw [ek] at qk
    have hsp : (frA l).1 = rs[0].2 :: (rs.drop 1).map (·.2) := by
      rw [← HRS.out]
      conv => lhs; rw [show rs = rs[0] :: rs.drop 1 from by cases rs <;> simp at hk ⊢]
      rfl
    have e7 : rs[k].2 = l7 := by
      rcases HL7.out with ⟨h9, _⟩ | ⟨init, h9⟩
      · rw [hsp] at h9; cases h9
      · rw [← HRS.out] at h9
        have h8 := congrArg List.getLast? h9
        rw [List.getLast?_append] at h8
        simp [List.getLast?_eq_getElem?, hk] at h8
        exact h8
    rw [e7] at qk Rk
    have hln := R7'.out.len
    have hl7n : l7.length ≤ l.length := (frA_lens _ l rfl).2 l7 (by rw [← HRS.out, ← e7]; exact List.mem_map_of_mem (List.getElem_mem _))
    have hllq := HL.out
    have hkn : k < l.length := by have h8 := (frA_lens _ l rfl).1; rw [← HRS.out, List.length_map] at h8; omega
    obtain ⟨r0, hr0⟩ : ∃ r0, rs[0].2 = r0 := ⟨_, rfl⟩
    rw [hr0] at q0 R0 hsp
    have HSP := Lib.hid hsp
    clear hsp hr0
    have s0 := cell_regrown q0
    have sk := cell_regrown qk
    have HK1 := Lib.hid (fun d os => (show Calls Try.prog 32 #[.slice A7 n7 c7, .slice Bk l7.length dk] (grow (redrawn w7 d) os) fun e w' => e = .returned (.bool true) ∧ Below w7.heap.size w7 w' from by
      have bz := below_regrown w7 d os
      have h8 := bytes_Equal A7 Bk n7 l7.length c7 dk l7 l7 (grow (redrawn w7 d) os) (((R7'.out.below h3).below (bz.mono h3.size)).more (Nat.le_trans h3.size bz.size)) (((Rk.below hB).below (bz.mono hB.size)).more (Nat.le_trans hB.size bz.size)) (by omega)
      rw [decide_eq_true rfl] at h8
      exact h8.mono fun e w' ⟨h6, h7⟩ => ⟨h6, bz.trans (h7.mono bz.size)⟩))
    have HLN := Lib.hid hln
    have hkb : k ≤ 4000 := by omega
    have hlb : l7.length ≤ 4000 := by omega
    clear hln hllq hl7n hkn
    rw [hk]
    go_upto_region 7 with fail
    refine wp_region_mix [0, 1, 2, 3, 4, 5, 6, 7, 8, 9, 10, 11, 12, 13, 14, 16, 17, 18, 15, 19, 20, 21, 22, 23, 24, 25, 26, 27, 28, 29, 30, 31, 32] (by kernel_rfl) (by kernel_rfl) ?_
    iterate 11 (refine mix_calm rfl rfl ?_; go_big_quiet_step (fail); refine wpQuiet_nil ?_)
    refine mix_loud rfl (by kernel_rfl) ?_
    intro d os K hK
    have HK := Lib.hid hK
    clear hK
    go_wp2_with fail
    refine (HK1.out d os).mono ?_
    rintro e W1 ⟨rfl, bq⟩
    go_wp2_with fail
    refine HK.out _ _ bq ?_
    clear HK HK1 s0 sk qk hc ek Rk
    replace hB := hB.trans (bq.mono hB.size)
    have HF := Lib.hid (fun d os => (law12_first A n c l (grow (redrawn W1 d) os) (by
      have bz := below_regrown W1 d os
      exact ((HR.out.below hB).below (bz.mono hB.size)).more (Nat.le_trans hB.size bz.size)) hnc (by omega)))
    have s0 := cell_regrown (show W1.cell? ⟨b5, o5, none⟩ = some (Value.slice B0 r0.length d0) from hb_cell bq (by simpa using q0))
    clear q0
    iterate 6 (refine mix_calm rfl rfl ?_; go_big_quiet_step (fail); refine wpQuiet_nil ?_)
    clear s0
    refine mix_loud rfl (by kernel_rfl) ?_
    intro d2 os2 K2 hK2
    have HK := Lib.hid hK2
    clear hK2
    go_wp2_with fail
    refine (HF.out d2 os2).mono ?_
    rintro e W2 ⟨v15, rfl, hv15, b15⟩
    have bz := below_regrown W1 d2 os2
    have bw := bz.trans (b15.mono bz.size)
    obtain ⟨A8, c8, rfl, R8⟩ : ∃ A8 c8, v15 = .slice A8 r0.length c8 ∧ Reads W2 W2.heap.size 1 A8 r0.length (r0.map vb) := by
      rcases hv15 with ⟨h9, _⟩ | ⟨r1, r2, h9, hO⟩
      · rw [HSP.out] at h9; cases h9
      · rw [HSP.out] at h9
        injection h9 with h9 _
        subst h9
        obtain ⟨A8, c8, h2, _, h3⟩ := hO.reads
        exact ⟨A8, c8, h2, h3⟩
    have R8' := Lib.hid R8
    have HR0 := Lib.hid R0
    clear hv15 b15 bz R8 R0
    go_wp2_with fail
    refine HK.out _ _ bw ?_
    clear HK HF
    replace hB := hB.trans (bw.mono hB.size)
    have HK1 := Lib.hid (fun d os => (show Calls Try.prog 32 #[.slice A8 r0.length c8, .slice B0 r0.length d0] (grow (redrawn W2 d) os) fun e w' => e = .returned (.bool true) ∧ Below W2.heap.size W2 w' from by
      have bz := below_regrown W2 d os
      have h8 := bytes_Equal A8 B0 r0.length r0.length c8 d0 r0 r0 (grow (redrawn W2 d) os) ((R8'.out.below bz).more bz.size) (((HR0.out.below hB).below (bz.mono hB.size)).more (Nat.le_trans hB.size bz.size)) (by
        have h9 := (frA_lens _ l rfl).2 r0 (by rw [HSP.out]; exact List.mem_cons_self ..)
        have := HL.out
        omega)
      rw [decide_eq_true rfl] at h8
      exact h8.mono fun e w' ⟨h6, h7⟩ => ⟨h6, bz.trans (h7.mono bz.size)⟩))
    refine mix_loud rfl (by kernel_rfl) ?_
    intro d3 os3 K3 hK3
    have HK := Lib.hid hK3
    clear hK3
    go_wp2_with fail
    refine (HK1.out d3 os3).mono ?_
    rintro e W3 ⟨rfl, b16⟩
    go_wp2_with fail
    refine HK.out _ _ b16 ?_
    clear HK HK1
    replace hB := hB.trans (b16.mono hB.size)
    have hk0 : (((k : Int) + 1) == 0) = false := by simp; omega
    iterate 13 (refine mix_calm rfl rfl ?_; go_big_quiet_step (fail); refine wpQuiet_nil ?_)
    refine mix_end ?_
    intro w8 hw8
    replace hB := hB.trans ((below_of_mix hw8).mono hB.size)
    clear hw8 h1 h3
  all_goals
    have hs8 := hB.size
    have HC := Lib.hid (bytes_Clone A n c l w8 ((HR.out.below hB).more hB.size) HA.out (by omega))
    go_wp2_with fail
    refine HC.out.mono ?_
    rintro e w9 ⟨v9, rfl, o9, b9⟩
    clear HC
    replace hB := hB.trans (b9.mono hB.size)
    have HC := Lib.hid (frame_Put w9 w8.heap.size v9 l A' n' c' l' o9 b9.size HL'.out (fun w1 hg => by
      have := Below.grown hB hg hB.size (fun k hk => by have := (o9.lt k hk).1; omega)
      exact (HR'.out.below this).more this.size) (by have := HL.out; omega))
    go_wp2_with fail
    refine HC.out.mono ?_
    rintro e w10 ⟨v10, rfl, o10, g10, _⟩
    clear HC
    replace hB := Below.grown hB g10 hB.size (fun k hk => by have := (o9.lt k hk).1; omega)
    have h8 := Below.grown b9 g10 b9.size (fun k hk => (o9.lt k hk).1)
    have hs10 := hB.size
    have HS10 := Lib.hid (fun k hk => (o10.lt k hk).2)
    clear o9 b9 g10
    have HC := Lib.hid (bytes_Clone A n c l w10 ((HR.out.below hB).more hB.size) HA.out (by omega))
    go_wp2_with fail
    refine HC.out.mono ?_
    rintro e w11 ⟨v11, rfl, o11, b11⟩
    clear HC
    replace o10 := o10.below b11
    replace hB := hB.trans (b11.mono hB.size)
    have HC := Lib.hid (ref12_Put w11 A' n' c' l' ((HR'.out.below hB).more hB.size) (by omega))
    go_wp2_with fail
    refine HC.out.mono ?_
    rintro e w12 ⟨v12, rfl, o12, b12⟩
    clear HC
    replace o10 := o10.below b12
    replace o11 := o11.below b12
    replace b11 := b11.trans (b12.mono b11.size)
    replace hB := hB.trans (b12.mono hB.size)
    obtain ⟨A12, c12, rfl, _, r12⟩ := o12.reads
    have HO10 := Lib.hid o10
    have HWL := Lib.hid (show l.length + (wtext l').length ≤ 1000000 by
      have h9 := wput_length l'.length (by have := HL'.out; omega)
      have := HL.out
      have := HL'.out
      unfold wtext
      rw [List.length_append]
      omega)
    clear o10 o12 b12
    generalize hwl : (wtext l').length = m12 at *
    have HM := Lib.hid hwl
    clear hwl
    go_wp2_with (at_builtin; go_must (refine append_bytes _ rfl _ _ rfl w10.heap.size v11 l rfl o11 A12 m12 c12 (wtext l') rfl r12 (by have := HWL.out; omega) b11.size ?_); intro v13 w13 o13 g13 _)
    replace hB := Below.grown hB g13 hB.size (fun k hk => by have := (o11.lt k hk).1; have := hB.size; have := b11.size; omega)
    have h14 : Below w10.heap.size w10 w13 := Below.grown b11 g13 b11.size (fun k hk => (o11.lt k hk).1)
    have o10 := HO10.out.kept g13 (own_sep HS10.out (fun k hk => (o11.lt k hk).1))
    clear g13 o11
    have HC := Lib.hid (own_Equal o10 o13 (by have := HWL.out; have := HM.out; rw [List.length_append]; omega))
    go_wp2_with fail
    refine HC.out.mono ?_
    rintro e w14 ⟨rfl, b14⟩
    clear HC
    replace hB := hB.trans (b14.mono hB.size)
    go_wp2_with fail
    refine (alive12 w14).mono ?_
    rintro e w15 ⟨rfl, b15⟩
    replace hB := hB.trans (b15.mono hB.size)
    go_wp2_with fail
    go_ret
    exact ⟨rfl, hB⟩
end Go.Proofs.Ytfebncpfhdgkpaa
