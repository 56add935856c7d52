/- The walk of the law ConfMembers: it returns true, and nothing that was there ahead of the call has turned. -/
import Derived.Test.YtfebncpfhdgkpaaConfL
import Derived.Test.YtfebncpfhdgkpaaConfE
import Derived.Test.YtfebncpfhdgkpaaMix
namespace Go.Proofs.Ytfebncpfhdgkpaa
open Go.RowKit Go.Sort Go.Shelf

theorem filter_snoc {p : Int → Bool} {g : List Int} {k : Nat} (hk : k < g.length) : (g.take (k + 1)).filter p = (g.take k).filter p ++ (if p g[k] then [g[k]] else []) := by
  rw [List.take_succ_eq_append_getElem hk, List.filter_append]
  congr 1
  rw [List.filter_cons]
  split <;> simp
theorem lead_snoc {p : Int → Bool} {g : List Int} {k : Nat} (hk : k < g.length) : leadO p (g.take (k + 1)) = (leadO p (g.take k)).or (if p g[k] then some g[k] else none) := by
  unfold leadO
  rw [List.take_succ_eq_append_getElem hk, List.find?_append]
  congr 1
  rw [List.find?_cons]
  split <;> simp_all
theorem alB_out {o0 o1 o2 o3 o4 : Bool} {j0 j1 j2 j3 j4 n : Int} (h : cOut o0 o1 o2 o3 o4 n = true) : alB o0 o1 o2 o3 o4 j0 j1 j2 j3 j4 n = false := by
  unfold alB
  rw [h]
  rfl

set_option maxRecDepth 100000 in
set_option maxHeartbeats 8000000 in
theorem conf_members_walk (w : World) (e : Int) (o0 o1 o2 o3 o4 : Bool) (j0 j1 j2 j3 j4 : Int) (n : Int) (A : Option Addr) (k c : Nat) (gs : List RcI) (_ : k ≤ c) (_ : c ≤ maxLen) (hl : gs.length = k) (hr : Reads w w.heap.size 1 A k (gs.map fun x : RcI => x.1)) (hR : ∀ x ∈ gs, RecI w w.heap.size x) (hS : ∀ x ∈ gs, x.2.length ≤ maxLen) :
    Calls Try.prog 5 #[.agg #[.int .i64 e, .bool o0, .bool o1, .bool o2, .bool o3, .bool o4, .int .i64 j0, .int .i64 j1, .int .i64 j2, .int .i64 j3, .int .i64 j4], .int .i64 n, .slice A k c] w fun x w' => x = .returned (.bool true) ∧ Below w.heap.size w w' := by
  have hB : Below w.heap.size w (w.alloc (.cells #[.int .i64 e, .bool o0, .bool o1, .bool o2, .bool o3, .bool o4, .int .i64 j0, .int .i64 j1, .int .i64 j2, .int .i64 j3, .int .i64 j4] 37)) := (Below.refl _ _).alloc (Nat.le_refl _) _
  by_cases hbig : 20 < k
  · have hd : decide (20 < (k : Int)) = true := by simp; omega
    have hk9 : k ≤ 9223372036854775807 := by have : c ≤ maxLen := by assumption
                                             unfold maxLen at this; omega
    clear hr hR hS hl
    go_enter Try.func5, Try.ntmps5
    go_wp2_with fail
    go_ret
    exact ⟨rfl, hB⟩
  have hd : decide (20 < (k : Int)) = false := by simp; omega
  have B0 := Blk.new w 37 #[.int .i64 e, .bool o0, .bool o1, .bool o2, .bool o3, .bool o4, .int .i64 j0, .int .i64 j1, .int .i64 j2, .int .i64 j3, .int .i64 j4]
  have hs : w.heap.size < (w.alloc (.cells #[.int .i64 e, .bool o0, .bool o1, .bool o2, .bool o3, .bool o4, .int .i64 j0, .int .i64 j1, .int .i64 j2, .int .i64 j3, .int .i64 j4] 37)).heap.size := by simp
  have HR := Lib.hid ((hr.below hB).more hB.size)
  have HRR := Lib.hid (fun x hx => ((hR x hx).below hB).more hB.size)
  have HS := Lib.hid hS
  have HL := Lib.hid hl
  clear hr hR hS hl
  go_enter Try.func5, Try.ntmps5
  go_upto_region 1 with fail
  generalize w.alloc (.cells #[.int .i64 e, .bool o0, .bool o1, .bool o2, .bool o3, .bool o4, .int .i64 j0, .int .i64 j1, .int .i64 j2, .int .i64 j3, .int .i64 j4] 37) = W at *
  have hb := Below.refl W.heap.size W
  go_wp2_with fail
  go_loopw [7, 8, 9, 10, 11, 12, 13, 14] (fun v7 _ _ _ _ _ _ _ wr => ∃ i : Nat, v7 = .int .i64 i ∧ i ≤ k ∧ (∀ x ∈ gs.take i, x.2.length ≤ 20) ∧ Below W.heap.size W wr ∧ Below w.heap.size w wr) (fun v7 _ _ _ _ _ _ _ _ => k - (intOf v7).toNat)
  case atStart => exact ⟨0, rfl, Nat.zero_le _, by simp, hb, hB⟩
  case round =>
    clear hb hB
    obtain ⟨i, rfl, hik, hall, hb, hB⟩ := hrel
    obtain ⟨wo, hwo⟩ : ∃ wo, wo = wr := ⟨_, rfl⟩
    subst hwo
    have HALL := Lib.hid hall
    clear hall
    by_cases hi : i < k
    · obtain ⟨b, off, hbo, hbW, hc⟩ := Reads.form (HR.out.below hb) (by omega)
      subst hbo
      have hil : i < gs.length := by have := HL.out; omega
      have q0 := hc i gs[i].1 (by simp [hil])
      obtain ⟨Ai, ci, hei, hnci, hAi, Ri⟩ := HRR.out gs[i] (List.getElem_mem hil)
      have hli := HS.out gs[i] (List.getElem_mem hil)
      have hsn : gs[i].2.length ≤ 20 → ∀ x ∈ gs.take (i + 1), x.2.length ≤ 20 := by
        intro h x hx
        rw [List.take_succ_eq_append_getElem hil] at hx
        rcases List.mem_append.1 hx with hx | hx
        · exact HALL.out x hx
        · rw [List.mem_singleton] at hx
          rw [hx]
          exact h
      rw [hei] at q0
      generalize gs[i].2 = g at *
      obtain ⟨ni, hni⟩ : ∃ ni, g.length = ni := ⟨_, rfl⟩
      rw [hni] at q0 hli Ri hnci hsn
      unfold maxLen at hli
      have HNI := Lib.hid hni
      have HRi := Lib.hid Ri
      have HQ0 := Lib.hid q0
      have HAi := Lib.hid hAi
      have HSN := Lib.hid hsn
      clear hei hc hni Ri hAi hsn
      by_cases h20 : 20 < ni
      · have hd2 : decide (20 < (ni : Int)) = true := by simp; omega
        go_wp2_with fail
        go_ret
        exact ⟨rfl, hB⟩
      have hd2 : decide (20 < (ni : Int)) = false := by simp; omega
      go_wp2_with fail
      have hbq := Below.refl wo.heap.size wo
      go_loopw [8, 9, 10, 11, 12] (fun v8 v9 v10 v11 _ wr => ∃ kk : Nat, v11 = .int .i64 kk ∧ kk ≤ ni ∧ OwnI wr wo.heap.size v8 ((g.take kk).filter fun x => !cOut o0 o1 o2 o3 o4 x) ∧ v9 = .int .i64 ((leadO (alB o0 o1 o2 o3 o4 j0 j1 j2 j3 j4) (g.take kk)).getD 0) ∧ v10 = .bool (leadO (alB o0 o1 o2 o3 o4 j0 j1 j2 j3 j4) (g.take kk)).isSome ∧ Below wo.heap.size wo wr ∧ Below W.heap.size W wr ∧ Below w.heap.size w wr) (fun _ _ _ v11 _ _ => ni - (intOf v11).toNat)
      case atStart => exact ⟨0, rfl, Nat.zero_le _, by simpa using OwnI.nil_ _ _, by simp [leadO], by simp [leadO], hbq, hb, hB⟩
      case round =>
        have hso := hb.size
        have hsB := hB.size
        clear hb hB hbq q0
        obtain ⟨kk, rfl, hkk, hO, rfl, rfl, hbq, hb, hB⟩ := hrel
        have q0 := hb_cell hbq HQ0.out
        by_cases hki : kk < ni
        · obtain ⟨b2, off2, hbo2, _, hc2⟩ := Reads.form (HRi.out.below hb) (by omega)
          subst hbo2
          have hkl : kk < g.length := by have := HNI.out; omega
          have q1 := hc2 kk (vi g[kk]) (by simp [hkl])
          unfold vi at q1
          have hfs := filter_snoc (p := fun x => !cOut o0 o1 o2 o3 o4 x) hkl
          have hls := lead_snoc (p := alB o0 o1 o2 o3 o4 j0 j1 j2 j3 j4) hkl
          have hfl : ((g.take kk).filter fun x => !cOut o0 o1 o2 o3 o4 x).length ≤ 20 := by
            have h1 := List.length_filter_le (fun x => !cOut o0 o1 o2 o3 o4 x) (g.take kk)
            rw [List.length_take] at h1
            omega
          obtain ⟨A8, c8, rfl, hc8, _, _⟩ := hO.reads
          generalize g[kk] = x at *
          generalize hfg : (g.take kk).filter (fun x => !cOut o0 o1 o2 o3 o4 x) = fl at *
          generalize leadO (alB o0 o1 o2 o3 o4 j0 j1 j2 j3 j4) (g.take kk) = lo at *
          have HFS := Lib.hid hfs
          have HLS := Lib.hid hls
          have HO := Lib.hid hO
          clear hc2 hfs hls hfg hO
          by_cases hout : cOut o0 o1 o2 o3 o4 x = true
          case' pos =>
            have hfe : (g.take (kk + 1)).filter (fun x => !cOut o0 o1 o2 o3 o4 x) = fl := by rw [HFS.out, hout]; simp
            have HO2 := Lib.hid (show OwnI wr wo.heap.size (.slice A8 fl.length c8) ((g.take (kk + 1)).filter fun x => !cOut o0 o1 o2 o3 o4 x) by rw [hfe]; exact HO.out)
            clear hfe
            obtain ⟨w6, h6⟩ : ∃ w6, w6 = wr := ⟨_, rfl⟩
            subst h6
            rcases (show x < 0 ∨ 5 ≤ x ∨ (0 ≤ x ∧ x < 5) by omega) with hx | hx | ⟨hx1, hx2⟩
            case' pos.inr.inr =>
              obtain ⟨m, rfl⟩ : ∃ m : Nat, x = m := ⟨x.toNat, by omega⟩
              have q2 := (B0.below hb hs).cell (1 + m)
              rw [cf_at e o0 o1 o2 o3 o4 j0 j1 j2 j3 j4 m (by omega), hout] at q2
              have hd3 : decide (0 ≤ (m : Int)) = true := by simp
              have hd4 : decide ((m : Int) < 5) = true := by simp; omega
              go_upto_region 16 with fail
              clear q2 hd3 hd4 hx1 hx2
            case' pos.inr.inl =>
              go_upto_region 16 with fail
            case' pos.inl =>
              go_upto_region 16 with fail
          case' neg =>
            obtain ⟨m, rfl⟩ : ∃ m : Nat, x = m := ⟨x.toNat, by
              have : ¬ (x < 0 ∨ 5 ≤ x) := fun h => hout (cOut_bad o0 o1 o2 o3 o4 x h)
              omega⟩
            have hm5 : m < 5 := by
              have : ¬ ((m : Int) < 0 ∨ 5 ≤ (m : Int)) := fun h => hout (cOut_bad o0 o1 o2 o3 o4 m h)
              omega
            have hof : cOut o0 o1 o2 o3 o4 m = false := by simpa using hout
            have q2 := (B0.below hb hs).cell (1 + m)
            rw [cf_at e o0 o1 o2 o3 o4 j0 j1 j2 j3 j4 m (by omega), hof] at q2
            have hd3 : decide (0 ≤ (m : Int)) = true := by simp
            have hd4 : decide ((m : Int) < 5) = true := by simp; omega
            have hfe : (g.take (kk + 1)).filter (fun x => !cOut o0 o1 o2 o3 o4 x) = fl ++ [(m : Int)] := by rw [HFS.out, hof]; simp
            have HFE := Lib.hid hfe
            have HOF := Lib.hid hof
            clear hfe hof
            go_upto_region 16 with (at_builtin; go_must (refine append_int wr (m : Int) _ rfl _ _ rfl wo.heap.size _ fl rfl HO.out rfl (by omega) hbq.size ?_); intro v6 w6 R6 g6 L6)
            have HO2 := Lib.hid (show OwnI w6 wo.heap.size v6 ((g.take (kk + 1)).filter fun x => !cOut o0 o1 o2 o3 o4 x) by rw [HFE.out]; exact R6)
            replace q0 := hb_cell (Below.grown hbq g6 hbq.size (fun q hq => (HO.out.lt q hq).1)) HQ0.out
            replace hb := Below.grown hb g6 hb.size (fun q hq => by have := (HO.out.lt q hq).1; omega)
            replace hB := Below.grown hB g6 hB.size (fun q hq => by have := (HO.out.lt q hq).1; omega)
            replace hbq := Below.grown hbq g6 hbq.size (fun q hq => (HO.out.lt q hq).1)
            clear R6 g6 L6 q2 q1 hd3 hd4 HOF HFE
          all_goals
            clear hout q0
            have c0 := (B0.below hb hs).cell
            rcases lo with _ | y
            rotate_left
            · simp only [Option.isSome_some, Option.getD_some]
              go_wp2_with fail
              go_roundw
              case rel => exact ⟨kk + 1, by go_num, by omega, HO2.out, by rw [HLS.out]; rfl, by rw [HLS.out]; rfl, hbq, hb, hB⟩
              case measure => simp [intOf]; omega
            simp only [Option.isSome_none, Option.getD_none]
            go_wp2_with fail
            refine (law21_always w6 e o0 o1 o2 o3 o4 j0 j1 j2 j3 j4 _).mono ?_
            rintro e' w7 ⟨rfl, b7⟩
            clear c0
            replace hb := hb.trans (b7.mono hb.size)
            replace hB := hB.trans (b7.mono hB.size)
            replace HO2 := Lib.hid (HO2.out.below b7)
            replace hbq := hbq.trans (b7.mono hbq.size)
            clear b7
            generalize hal : alB o0 o1 o2 o3 o4 j0 j1 j2 j3 j4 _ = a1 at HLS ⊢
            clear hal
            cases a1
            case' false =>
              go_wp2_with fail
              go_roundw
              case rel => exact ⟨kk + 1, by go_num, by omega, HO2.out, by rw [HLS.out]; rfl, by rw [HLS.out]; rfl, hbq, hb, hB⟩
              case measure => simp [intOf]; omega
            go_wp2_with fail
            go_roundw
            case rel => exact ⟨kk + 1, by go_num, by omega, HO2.out, by rw [HLS.out]; rfl, by rw [HLS.out]; rfl, hbq, hb, hB⟩
            case measure => simp [intOf]; omega
        · have hke : kk = ni := by omega
          subst hke
          have hd9 : decide (kk < kk) = false := by simp
          have htk : g.take kk = g := List.take_of_length_le (by have := HNI.out; omega)
          rw [htk] at hO ⊢
          obtain ⟨A8, c8, rfl, hc8, _, R8⟩ := hO.reads
          have HR8 := Lib.hid R8
          clear hO R8 htk
          have hLE := fun d os => Calls.regrown_of (conf_Leader (grow (redrawn wr d) os) e o0 o1 o2 o3 o4 j0 j1 j2 j3 j4 Ai kk ci g ((HRi.out.below (hb.trans ((below_regrown wr d os).mono hb.size))).more (Nat.le_trans hb.size (below_regrown wr d os).size)) (by omega))
          have q0' := cell_regrown q0
          have c0 : ∀ d os i, (grow (redrawn wr d) os).cell? ⟨w.heap.size, i, none⟩ = (#[.int .i64 e, .bool o0, .bool o1, .bool o2, .bool o3, .bool o4, .int .i64 j0, .int .i64 j1, .int .i64 j2, .int .i64 j3, .int .i64 j4] : Array Value)[i]? := fun d os i => (B0.below (hb.trans ((below_regrown wr d os).mono hb.size)) hs).cell i
          generalize hlg : leadO (alB o0 o1 o2 o3 o4 j0 j1 j2 j3 j4) g = lo at *
          obtain ⟨ld, hld⟩ : ∃ ld, lo.getD 0 = ld := ⟨_, rfl⟩
          obtain ⟨sm, hsm⟩ : ∃ sm, lo.isSome = sm := ⟨_, rfl⟩
          rw [hld, hsm] at hLE ⊢
          go_upto_region 18 with fail
          refine wp_region_quiet_below (by kernel_rfl) (by kernel_rfl) ?_
          repeat (go_big_quiet_step (exact hLE _ _))
          refine wpQuiet_nil ?_
          intro _ hw'
          obtain ⟨⟨dq, osq⟩, hw''⟩ := hw'
          subst hw''
          have bq := below_regrown wr dq osq
          have HR9 := Lib.hid ((HR8.out.below bq).more bq.size)
          replace hb := hb.trans (bq.mono hb.size)
          replace hB := hB.trans (bq.mono hB.size)
          replace q0 := hb_cell bq q0
          clear bq hLE q0' c0 HR8 hbq
          generalize grow (redrawn wr dq) osq = w8 at *
          obtain ⟨m8, hm8⟩ : ∃ m8, (g.filter fun x => !cOut o0 o1 o2 o3 o4 x).length = m8 := ⟨_, rfl⟩
          have hm8l : m8 ≤ 20 := by
            have h1 := List.length_filter_le (fun x => !cOut o0 o1 o2 o3 o4 x) g
            have := HNI.out
            omega
          rw [hm8] at HR9 ⊢
          have HM8 := Lib.hid hm8
          clear hm8 hc8
          have q0' := cell_regrown q0
          have c0 : ∀ d os i, (grow (redrawn w8 d) os).cell? ⟨w.heap.size, i, none⟩ = (#[.int .i64 e, .bool o0, .bool o1, .bool o2, .bool o3, .bool o4, .int .i64 j0, .int .i64 j1, .int .i64 j2, .int .i64 j3, .int .i64 j4] : Array Value)[i]? := fun d os i => (B0.below (hb.trans ((below_regrown w8 d os).mono hb.size)) hs).cell i
          have hsm2 : (sm != sm) = false := by cases sm <;> rfl
          have hld2 : (ld != ld) = false := by simp
          go_upto_region 19 with fail
          refine wp_region_mix [0, 1, 2, 3, 4, 6, 5, 7, 8, 9, 10, 11, 12, 13, 14, 15, 16, 17, 18] (by kernel_rfl) (by kernel_rfl) ?_
          iterate 6 (refine mix_calm rfl rfl ?_; go_big_quiet_step (fail); refine wpQuiet_nil ?_)
          clear q0' c0
          refine mix_loud rfl (by kernel_rfl) ?_
          intro d1 os1 K1 hK1
          have HK := Lib.hid hK1
          clear hK1
          have HC := Lib.hid (conf_Members (grow (redrawn w8 d1) os1) e o0 o1 o2 o3 o4 j0 j1 j2 j3 j4 Ai kk ci g ((HRi.out.below (hb.trans ((below_regrown w8 d1 os1).mono hb.size))).more (Nat.le_trans hb.size (below_regrown w8 d1 os1).size)) HAi.out (by omega))
          go_wp2_with fail
          refine HC.out.mono ?_
          clear HC
          rintro e' W1 ⟨v1, rfl, ow1, b1⟩
          replace b1 := (below_regrown w8 d1 os1).trans (b1.mono (below_regrown w8 d1 os1).size)
          obtain ⟨A1, c1, rfl, _, _, R1⟩ := ow1.reads
          rw [HM8.out] at R1 ⊢
          go_wp2_with fail
          refine HK.out _ _ b1 ?_
          clear HK
          replace hb := hb.trans (b1.mono hb.size)
          replace hB := hB.trans (b1.mono hB.size)
          have HR1 := Lib.hid R1
          have HR9' := Lib.hid ((HR9.out.below b1).more b1.size)
          clear R1 ow1 b1 HR9 q0
          have HE := Lib.hid (fun d os => (show Calls Try.prog 22 #[.slice A1 m8 c1, .slice A8 m8 c8] (grow (redrawn W1 d) os) fun e w' => e = .returned (.bool true) ∧ Below W1.heap.size W1 w' from by
            have bz := below_regrown W1 d os
            have h8 := ints_Equal A1 A8 m8 m8 c1 c8 _ _ (grow (redrawn W1 d) os) ((HR1.out.below bz).more bz.size) ((HR9'.out.below bz).more bz.size) (by omega)
            rw [decide_eq_true rfl] at h8
            exact h8.mono fun e w' ⟨h6, h7⟩ => ⟨h6, bz.trans (h7.mono bz.size)⟩))
          refine mix_loud rfl (by kernel_rfl) ?_
          intro d1 os1 K1 hK1
          have HK := Lib.hid hK1
          clear hK1
          go_wp2_with fail
          refine (HE.out d1 os1).mono ?_
          clear HE
          rintro e' W2 ⟨rfl, b1⟩
          go_wp2_with fail
          refine HK.out _ _ b1 ?_
          clear HK
          replace hb := hb.trans (b1.mono hb.size)
          replace hB := hB.trans (b1.mono hB.size)
          clear b1 HR1 HR9'
          iterate 11 (refine mix_calm rfl rfl ?_; go_big_quiet_step (fail); refine wpQuiet_nil ?_)
          refine mix_end ?_
          intro w9 hw9
          replace hb := hb.trans ((below_of_mix hw9).mono hb.size)
          replace hB := hB.trans ((below_of_mix hw9).mono hB.size)
          clear hw9 hsm2 hld2
          go_wp2_with fail
          go_roundw
          case rel => exact ⟨i + 1, by go_num, by omega, HSN.out (by omega), hb, hB⟩
          case measure => simp [intOf]; omega
    · have hie : i = k := by omega
      subst hie
      have hd9 : decide (i < i) = false := by simp
      have hall : ∀ x ∈ gs, x.2.length ≤ 1000000 := by
        intro x hx
        have := HALL.out x (by rw [List.take_of_length_le (by have := HL.out; omega)]; exact hx)
        omega
      have HG := Lib.hid hall
      have k1 := fun d os => Calls.regrown_of (conf_May (grow (redrawn wo d) os) e o0 o1 o2 o3 o4 j0 j1 j2 j3 j4 n A i c gs HL.out ((HR.out.below (hb.trans ((below_regrown wo d os).mono hb.size))).more (Nat.le_trans hb.size (below_regrown wo d os).size)) (fun x hx => ((HRR.out x hx).below (hb.trans ((below_regrown wo d os).mono hb.size))).more (Nat.le_trans hb.size (below_regrown wo d os).size)) HG.out (by omega))
      have k2 := fun d os => Calls.regrown_of (law21_may (grow (redrawn wo d) os) e o0 o1 o2 o3 o4 j0 j1 j2 j3 j4 n A i c gs HL.out ((HR.out.below (hb.trans ((below_regrown wo d os).mono hb.size))).more (Nat.le_trans hb.size (below_regrown wo d os).size)) (fun x hx => ((HRR.out x hx).below (hb.trans ((below_regrown wo d os).mono hb.size))).more (Nat.le_trans hb.size (below_regrown wo d os).size)) HG.out (by omega))
      have k3 := fun d os => Calls.regrown_of (alive21 (grow (redrawn wo d) os))
      generalize mayB (cOut o0 o1 o2 o3 o4) (alB o0 o1 o2 o3 o4 j0 j1 j2 j3 j4) n (gs.map fun x : RcI => x.2) = qm at *
      have hqq : (qm == qm) = true := by simp
      have c0 : ∀ d os i, (grow (redrawn wo d) os).cell? ⟨w.heap.size, i, none⟩ = (#[.int .i64 e, .bool o0, .bool o1, .bool o2, .bool o3, .bool o4, .int .i64 j0, .int .i64 j1, .int .i64 j2, .int .i64 j3, .int .i64 j4] : Array Value)[i]? := fun d os i => (B0.below (hb.trans ((below_regrown wo d os).mono hb.size)) hs).cell i
      go_upto_region 21 with fail
      refine wp_region_quiet_below (by kernel_rfl) (by kernel_rfl) ?_
      repeat (go_big_quiet_step (first | with_reducible exact k1 _ _ | with_reducible exact k2 _ _ | with_reducible exact k3 _ _))
      refine wpQuiet_nil ?_
      intro _ hw'
      obtain ⟨⟨dq, osq⟩, hw''⟩ := hw'
      subst hw''
      replace hB := hB.trans ((below_regrown wo dq osq).mono hB.size)
      clear k1 k2 k3 hqq c0
      go_wp2_with fail
      go_ret
      exact ⟨rfl, hB⟩
end Go.Proofs.Ytfebncpfhdgkpaa
