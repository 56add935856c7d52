/- The walk of the law GapsRuns: it returns true, and nothing that was there ahead of the call has turned. -/
import Derived.Test.YtnaaknkknhediaaGapsD
import Derived.Lib.QuietBelow
import Derived.Outline
namespace Go.Proofs.Ytnaaknkknhediaa
open Go.RowKit Go.Sort

/-- A row's runs, as a slice holds them, read place by place. -/
theorem runs_at {w : World} {base : Nat} {A : Option Addr} {c : Nat} {R : List (Int × Nat)} (h : RunsV w base (.slice A R.length c) R) {k : Nat} (hk : k < R.length) : ∃ g, A = some ⟨g, 0, none⟩ ∧ g < w.heap.size ∧
    w.cell? ⟨g, k * 2, none⟩ = some (.int .i64 R[k].1) ∧ w.cell? ⟨g, k * 2 + 1, none⟩ = some (.int .i64 (R[k].2 : Int)) := by
  obtain ⟨A', c', hv, _, _, hc⟩ := own_form h
  injection hv with hA _ _
  subst hA
  obtain ⟨g, rfl, _, hlt, hcell⟩ := hc (by omega)
  exact ⟨g, rfl, hlt, hcell _ _ (flat_get c2 2 c2_len R k 0 hk (by decide)), hcell _ _ (flat_get c2 2 c2_len R k 1 hk (by decide))⟩
theorem RunsV.below {w w' : World} {base : Nat} {v : Value} {R : List (Int × Nat)} (h : RunsV w base v R) (hb : Below w.heap.size w w') : RunsV w' base v R := own_below h hb

/-- What the law asks of numbers that follow, after any draws. -/
theorem follows_grown (A : Option Addr) (n c : Nat) (l : List Int) (W : World) (B : Nat) (hr : Reads W B 1 A n (l.map vi)) (hB : B ≤ W.heap.size) (hn : n ≤ 9223372036854775807) (hwf : ∀ x ∈ l, (Lit.int .i64 x).wf = true) (i : Nat) (h0 : 0 < i) (hi : i < l.length) (b : Bool)
    (hb : decide ((l[i - 1]'(by omega)) + 1 = l[i]) = b) (z : Int) (hz : z = (i : Int)) (d : Nat) (os : Array Obj) :
    Calls Try.prog 41 #[.slice A n c, .int .i64 z] (grow (redrawn W d) os) fun e w'' => e = .returned (.bool b) ∧ ∃ p : Regrown, w'' = grow (redrawn W p.d) p.os := by
  subst hz hb
  exact Calls.regrown_of ((follows_any A n c l _ B (hr.below ((below_regrown W d os).mono hB)) hn hwf i h0 hi).mono fun _ _ ⟨he, k, hk⟩ => ⟨he, hk ▸ below_drewN (Below.refl _ _) k⟩)

set_option maxRecDepth 100000 in
set_option maxHeartbeats 2000000 in
theorem gaps_runs_walk (w : World) (A : Option Addr) (n c : Nat) (l : List Int) (_ : n ≤ c) (_ : c ≤ maxLen) (_ : l.length = n) (hr : Reads w w.heap.size 1 A n (l.map vi)) (hwf : ∀ x ∈ l, (Lit.int .i64 x).wf = true) (_ : A = none → c = 0) :
    Calls Try.prog 8 #[.slice A n c] w fun e w' => e = .returned (.bool true) ∧ Below w.heap.size w w' := by
  rename_i hll hA
  by_cases hn : 300 < n
  · have hd : decide (300 < (n : Int)) = true := by simp; omega
    clear hA hll hwf
    go_enter Try.func8, Try.ntmps8
    go_wp2_with fail
    go_ret
    exact ⟨rfl, Below.refl _ _⟩
  have hd : decide (300 < (n : Int)) = false := by simp; omega
  have hC := gaps_Runs A n c l w hr (by omega) hwf
  have HR := Lib.hid hr
  have HW := Lib.hid hwf
  have HL := Lib.hid hll
  have HC := Lib.hid hC
  have HG := Lib.hid (good_rs l)
  clear hr hwf hA hll hC
  go_enter Try.func8, Try.ntmps8
  go_wp2_with fail
  refine HC.out.mono ?_
  clear HC
  rintro e w1 ⟨v1, rfl, RV, hB⟩
  have hRl := rs_length l
  rw [HL.out] at hRl
  obtain ⟨R, hRe⟩ : ∃ R, rs l = R := ⟨_, rfl⟩
  rw [hRe] at RV HG hRl
  clear hRe
  obtain ⟨A3, c3, rfl, _, _, _⟩ := own_form RV
  go_wp2_with fail
  go_loopw [4, 5] (fun v4 v5 wr => ∃ i : Nat, v5 = .int .i64 i ∧ i ≤ R.length ∧ v4 = .int .i64 (psum R i) ∧ RunsV wr w.heap.size (.slice A3 R.length c3) R ∧ Below w.heap.size w wr) (fun _ v5 _ => R.length - (intOf v5).toNat)
  case atStart => exact ⟨0, rfl, Nat.zero_le _, rfl, RV, hB⟩
  case round =>
    clear RV hB
    obtain ⟨i, rfl, hi, rfl, RV, hB⟩ := hrel
    by_cases hiR : i < R.length
    · obtain ⟨g, rfl, hg, p0, p1⟩ := runs_at RV hiR
      have hpos := HG.out.pos R[i] (List.getElem_mem hiR)
      have hle := psum_le HG.out i hiR
      rw [HL.out] at hle
      have hget := psum_get HG.out i hiR
      have hsucc := psum_succ R i hiR
      have hap := psum_apart HG.out i hiR
      generalize psum R i = P at *
      obtain ⟨f, hf⟩ : ∃ f, R[i].1 = f := ⟨_, rfl⟩
      obtain ⟨cc, hcc⟩ : ∃ cc, R[i].2 = cc := ⟨_, rfl⟩
      rw [hf] at p0 hget hap
      rw [hcc] at p1 hpos hle hget hsucc
      have HF := Lib.hid hf
      have HCC := Lib.hid hcc
      clear hf hcc
      have h1 : decide ((cc : Int) < 1) = false := by simp; omega
      have h2 : decide ((n : Int) - (P : Int) < (cc : Int)) = false := by simp; omega
      have hGet := Lib.hid hget
      have hSucc := Lib.hid hsucc
      clear hget hsucc
      have hcase : decide (0 < i) = false ∨ (0 < i ∧ Hid (Calls Try.prog 41 #[.slice A n c, .int .i64 P] wr fun e w' => e = .returned (.bool false) ∧ ∃ k, w' = wr.drewN k)) := by
        rcases Nat.eq_zero_or_pos i with h0 | h0
        · exact .inl (by simp [h0])
        · right
          obtain ⟨p, q0, q1, q2⟩ := hap h0
          have q3 := hGet.out 0 hpos
          have hPl : P < l.length := by have := HL.out; omega
          refine ⟨h0, Lib.hid ((follows_any A n c l wr _ (HR.out.below hB) (by omega) HW.out P q0 hPl).mono fun e w' ⟨he, hk⟩ => ⟨?_, hk⟩)⟩
          rw [he]
          refine ret_bool' ?_
          rw [List.getElem?_eq_getElem (by omega)] at q1
          rw [Nat.add_zero, List.getElem?_eq_getElem hPl] at q3
          injection q1 with q1
          injection q3 with q3
          rw [q1, q3]
          simp
          omega
      clear hap
      have hPn : P ≤ n := by omega
      have inner : ∀ (W : World) (k : Nat), k < cc → RunsV W w.heap.size (.slice (some ⟨g, 0, none⟩) R.length c3) R → Below w.heap.size w W →
          ∃ b off, A = some ⟨b, off, none⟩ ∧ W.cell? ⟨b, off + (P + k), none⟩ = some (.int .i64 (f + k)) ∧ (-9223372036854775808 ≤ f + k ∧ f + k ≤ 9223372036854775807) ∧
          (0 < k → ∀ d os, Calls Try.prog 41 #[.slice A n c, .int .i64 ((P : Int) + (k : Int))] (grow (redrawn W d) os) fun e w'' => e = .returned (.bool true) ∧ ∃ p : Regrown, w'' = grow (redrawn W p.d) p.os) := by
        intro W k hk RV hB
        have R2 := HR.out.below hB
        have q3 := hGet.out k hk
        have hPl := (List.getElem?_eq_some_iff.1 q3).1
        obtain ⟨_, b, off, hA, _, hc⟩ := ints_cell R2 (by have := HL.out; omega)
        refine ⟨b, off, hA, hc _ _ q3, ?_, fun h0 d os => ?_⟩
        · obtain ⟨_, h9⟩ := List.getElem?_eq_some_iff.1 q3
          exact bounds_i64 (HW.out _ (h9 ▸ List.getElem_mem hPl))
        · refine follows_grown A n c l W _ R2 hB.size (by omega) HW.out (P + k) (by omega) hPl true ?_ _ (by omega) d os
          have q4 := hGet.out (k - 1) (by omega)
          rw [show P + (k - 1) = P + k - 1 by omega, List.getElem?_eq_getElem (by omega)] at q4
          rw [List.getElem?_eq_getElem hPl] at q3
          injection q3 with q3
          injection q4 with q4
          rw [q3, q4]
          simp
          omega
      have hIn := Lib.hid inner
      clear inner
      rcases hcase with h0 | ⟨h0, hF⟩
      case' pos.inl =>
        go_wp2_with fail
        clear p0
        obtain ⟨W, rfl⟩ : ∃ W : World, W = wr := ⟨_, rfl⟩
      case' pos.inr =>
        go_wp2_with fail
        refine hF.out.mono ?_
        clear hF
        rintro e w2 ⟨rfl, kd, rfl⟩
        replace RV : RunsV (wr.drewN kd) w.heap.size _ R := RV
        replace hB := below_drewN hB kd
        replace p1 : (wr.drewN kd).cell? ⟨g, i * 2 + 1, none⟩ = some (.int .i64 (cc : Int)) := p1
        replace hg : g < (wr.drewN kd).heap.size := hg
        clear p0
        generalize wr.drewN kd = W at *
        go_wp2_with fail
      all_goals
        go_loopw [6] (fun v6 wr2 => ∃ k : Nat, v6 = .int .i64 k ∧ k ≤ cc ∧ RunsV wr2 w.heap.size (.slice (some ⟨g, 0, none⟩) R.length c3) R ∧ Below w.heap.size w wr2) (fun v6 _ => cc - (intOf v6).toNat)
        case atStart => exact ⟨0, rfl, Nat.zero_le _, RV, hB⟩
        case round =>
          clear RV hB p1 hg
          obtain ⟨k, rfl, hk, RV, hB⟩ := hrel
          obtain ⟨g', hge, hg, p0, p1⟩ := runs_at RV hiR
          injection hge with hge
          injection hge with hge
          subst hge
          rw [HF.out] at p0
          rw [HCC.out] at p1
          by_cases hkc : k < cc
          · obtain ⟨b, off, rfl, q0, hwf1, hfo⟩ := hIn.out wr k hkc RV hB
            have r0 := cell_regrown q0
            have r1 := cell_regrown p0
            have hfk : IntKind.i64.wrap (f + (k : Int)) = f + (k : Int) := by rw [IntKind.wrap_i64]; omega
            have hPk : IntKind.i64.wrap ((P : Int) + (k : Int)) = (P : Int) + (k : Int) := by rw [IntKind.wrap_i64]; omega
            have hPk0 : 0 ≤ (P : Int) + (k : Int) := by omega
            have hPkn : (P : Int) + (k : Int) < (n : Int) := by omega
            have hPk2 : ((P : Int) + (k : Int)).toNat = P + k := by omega
            have hne : ((f + (k : Int)) != (f + (k : Int))) = false := by simp
            rcases Nat.eq_zero_or_pos k with hk0 | hk0
            · have hd0 : decide (0 < k) = false := by simp [hk0]
              clear hfo hk0
              go_upto_region 13 with fail
              refine wp_region_quiet_below (by kernel_rfl) (by kernel_rfl) ?_
              repeat (go_big_quiet_step (fail))
              refine wpQuiet_nil ?_
              intro _ hw'
              obtain ⟨⟨dq, osq⟩, hw''⟩ := hw'
              subst hw''
              replace RV := RV.below (below_regrown wr dq osq)
              replace hB := below_regrown_of hB hB.size dq osq
              clear r0 r1 hfk hPk hPk0 hPkn hPk2 hne p0 p1 q0
              go_wp2_with fail
              go_roundw
              case rel => exact ⟨k + 1, by go_num, by omega, RV, hB⟩
              case measure => simp [intOf]; omega
            · have hFo := hfo hk0
              clear hfo
              have hd0 : decide (0 < k) = true := by simp [hk0]
              go_upto_region 13 with fail
              refine wp_region_quiet_below (by kernel_rfl) (by kernel_rfl) ?_
              repeat (go_big_quiet_step (exact hFo _ _))
              refine wpQuiet_nil ?_
              intro _ hw'
              obtain ⟨⟨dq, osq⟩, hw''⟩ := hw'
              subst hw''
              clear hFo
              replace RV := RV.below (below_regrown wr dq osq)
              replace hB := below_regrown_of hB hB.size dq osq
              clear r0 r1 hfk hPk hPk0 hPkn hPk2 hne p0 p1 q0
              go_wp2_with fail
              go_roundw
              case rel => exact ⟨k + 1, by go_num, by omega, RV, hB⟩
              case measure => simp [intOf]; omega
          · have hke : decide (k < cc) = false := by simp; omega
            have hPc : IntKind.i64.wrap ((P : Int) + (cc : Int)) = (P : Int) + (cc : Int) := by rw [IntKind.wrap_i64]; omega
            go_wp2_with fail
            go_roundw
            case rel => exact ⟨i + 1, by go_num, by omega, by rw [hSucc.out]; go_num, RV, hB⟩
            case measure => simp [intOf]; omega
    · have hie : i = R.length := by omega
      subst hie
      have hps := psum_all HG.out
      rw [HL.out] at hps
      have HPS := Lib.hid hps
      rw [HPS.out]
      clear hps
      go_wp2_with fail
      refine (alive47 _).mono ?_
      rintro e w5 ⟨rfl, b5⟩
      go_wp2_with fail
      go_ret
      exact ⟨rfl, hB.trans (b5.mono hB.size)⟩
end Go.Proofs.Ytnaaknkknhediaa
