/- The walk of the law HistCounts: it returns true, and nothing that was there ahead of the call has turned. -/
import Derived.Test.YtfebncpfhdgkpaaHistE
import Derived.Test.YtfebncpfhdgkpaaHistF
import Derived.Test.YtfebncpfhdgkpaaIntsA
import Derived.Test.YtfebncpfhdgkpaaBytesB
import Derived.Test.YtfebncpfhdgkpaaCarry
namespace Go.Proofs.Ytfebncpfhdgkpaa
open Go.RowKit Go.Sort

theorem wpQuiet_load_row {P : Program} {ops : Array Oper} {C : World → Prop} {Q : Act → Prop} {a : Act} {o : Oper} {rest : List Oper} (hw : Region.wanted o (yielded ops a.tmps) = true) (ty : TypeId) (x : Operand) (ho : o.op = .load ty x)
    (g : Nat) (hx : a.eval x = .pointer (some ⟨g, 0, none⟩)) (cs : Array Value) (hrun : ∀ w, C w → (loadVar ty ⟨g, 0, none⟩).run P w = .ok (.agg cs) w) (h : wpQuiet P ops C Q rest (a.put o.dst (.agg cs))) : wpQuiet P ops C Q (o :: rest) a := by
  show (if Region.wanted o (yielded ops a.tmps) then o.quiet P a C (wpQuiet P ops C Q rest) else wpQuiet P ops C Q rest (a.put o.dst undef))
  rw [if_pos hw]
  refine ⟨.agg cs, fun w hC => ?_, h⟩
  unfold Oper.quietAt execOp
  simp only [ho, hx, Instr.loadAt, Instr.sureAddr, Sem.run_bind, Sem.run_pure, Result.andThen_ok, hrun w hC]
  exact ⟨rfl, rfl⟩

set_option maxRecDepth 100000 in
set_option maxHeartbeats 8000000 in
theorem hist_counts_walk (w : World) (A : Option Addr) (n c : Nat) (La : List Int) (_ : n ≤ c) (_ : c ≤ maxLen) (_ : La.length = n) (hr : Reads w w.heap.size 1 A n (La.map vi)) (_ : ∀ x ∈ La, (Lit.int .i64 x).wf = true) (_ : A = none → c = 0)
    (A' : Option Addr) (n' c' : Nat) (Lb : List Int) (_ : n' ≤ c') (_ : c' ≤ maxLen) (_ : Lb.length = n') (hr' : Reads w w.heap.size 1 A' n' (Lb.map vi)) (_ : ∀ x ∈ Lb, (Lit.int .i64 x).wf = true) (_ : A' = none → c' = 0) :
    Calls Try.prog 4 #[.slice A n c, .slice A' n' c'] w fun e w' => e = .returned (.bool true) ∧ Below w.heap.size w w' := by
  have HRa := Lib.hid hr
  have HRb := Lib.hid hr'
  have HLa : Hid (La.length = n) := Lib.hid (by assumption)
  have HLb : Hid (Lb.length = n') := Lib.hid (by assumption)
  clear hr hr'
  by_cases h1 : 100 < n
  · go_enter Try.func4, Try.ntmps4
    go_wp2_with fail
    go_ret
    exact ⟨rfl, Below.refl _ _⟩
  by_cases h2 : 100 < n'
  · go_enter Try.func4, Try.ntmps4
    go_wp2_with fail
    go_ret
    exact ⟨rfl, Below.refl _ _⟩
  have hZ : (#[.int .i64 0, .int .i64 0, .int .i64 0, .int .i64 0, .int .i64 0, .int .i64 0, .int .i64 0, .int .i64 0, .int .i64 0, .int .i64 0, .int .i64 0, .int .i64 0, .int .i64 0, .int .i64 0, .int .i64 0, .int .i64 0, .int .i64 0, .int .i64 0, .int .i64 0, .int .i64 0, .int .i64 0, .int .i64 0, .int .i64 0, .int .i64 0] : Array Value) = hv hz := rfl
  have B5 := Blk.new w 29 (hv hz)
  have hB := (Below.refl w.heap.size w).alloc (Nat.le_refl _) (.cells (hv hz) 29)
  go_enter Try.func4, Try.ntmps4
  go_wp2_with fail
  generalize w.alloc (.cells (hv hz) 29) = W at *
  clear hZ
  go_loopw [6] (fun v6 wr => ∃ i : Nat, v6 = .int .i64 i ∧ i ≤ n ∧ Blk wr w.heap.size 29 (hv (cntH (La.take i))) ∧ Below w.heap.size w wr) (fun v6 _ => n - (intOf v6).toNat)
  case atStart => exact ⟨0, rfl, Nat.zero_le _, by rw [List.take_zero, cntH_nil]; exact B5, hB⟩
  case round =>
    clear B5 hB
    obtain ⟨i, rfl, hin, B5, hB⟩ := hrel
    by_cases hi : i < n
    · obtain ⟨b, off, rfl, hb, hc⟩ := Reads.form (HRa.out.below hB) (by omega)
      have hil : i < La.length := by have := HLa.out; omega
      have q0 := hc i (vi La[i]) (by simp [hil])
      unfold vi at q0
      have hnx : La.take (i + 1) = La.take i ++ [La[i]] := List.take_succ_eq_append_getElem hil
      obtain ⟨x, hx⟩ : ∃ x, La[i] = x := ⟨_, rfl⟩
      rw [hx] at q0 hnx
      have hk24 := bkt_lt x
      have hkl : bkt x < (cntH (La.take i)).length := by rw [cntH_len]; exact hk24
      have hsn := cntH_snoc (La.take i) x hkl
      have hcl := cntH_len (La.take i)
      have hrg := cntH_range (La.take i) (bkt x) hkl
      have hlt : (La.take i).length ≤ n := by simp; omega
      have HC := Lib.hid (fun w => law44_bucket x w)
      rw [← hnx] at hsn
      obtain ⟨k, hk⟩ : ∃ k, bkt x = k := ⟨_, rfl⟩
      simp only [hk] at hsn hk24 hkl hrg HC
      have hg := hv_get (cntH (La.take i)) k hkl
      have hst := hv_set (cntH (La.take i)) k ((cntH (La.take i))[k] + 1)
      rw [← hsn] at hst
      have hc3 : wr.cell? ⟨w.heap.size, k, none⟩ = some (.int .i64 (cntH (La.take i))[k]) := by rw [B5.cell]; exact hg
      have hf3 := B5.frozen k
      have B5' := B5.set_ k (.int .i64 ((cntH (La.take i))[k] + 1))
      rw [hst] at B5'
      have hB' := hB.setCell (p := ⟨w.heap.size, k, none⟩) (Nat.le_refl _) (.int .i64 ((cntH (La.take i))[k] + 1))
      generalize (cntH (La.take i))[k] = z at *
      have hz1 : IntKind.i64.wrap (z + 1) = z + 1 := by rw [IntKind.wrap_i64]; omega
      clear hg hst hsn hnx hc hx hk hkl hcl hrg B5
      go_wp2_with (go_at_call 15; refine (HC.out _).mono ?_; rintro e w' ⟨rfl, rfl⟩)
      go_roundw
      case rel => exact ⟨i + 1, by go_num, by omega, by simpa using B5', by simpa using hB'⟩
      case measure => simp [intOf]; omega
    · have hie : La.take i = La := List.take_of_length_le (by have := HLa.out; omega)
      rw [hie] at B5
      have hw1 := hB.size
      have h5 := B5.lt
      have RA := (HRa.out.below hB)
      have RB := (HRb.out.below hB)
      go_wp2_with (first
        | (at_builtin; (refine append_ints _ rfl _ _ rfl wr.heap.size (.slice (some ⟨wr.heap.size, 0, none⟩) 0 0) [] rfl (World.ownsRow_made wr #[] 0 (Nat.le_refl _) (by decide) (by decide)) A n c La rfl ((RA.alloc hw1 _).more (by simp; omega)) (by simp; omega) (by simp) ?_); intro v1 w1 O1 G1 L1; have b1 : Below wr.heap.size wr w1 := Below.grown ((Below.refl _ _).alloc (Nat.le_refl _) _) G1 (by simp) (fun q hq => by simp [Value.ownBlock] at hq; omega); have RB1 := (RB.below (b1.mono hw1)).more (Nat.le_trans hw1 b1.size); have hs1 := b1.size; replace B5 := B5.below b1 B5.lt; replace hB := hB.trans (b1.mono hw1); clear G1 L1 b1)
        | (at_builtin; go_must (refine append_ints w1 rfl _ _ rfl wr.heap.size v1 ([] ++ La) rfl O1 A' n' c' Lb rfl RB1 (by simp; have := HLa.out; omega) hs1 ?_); intro v2 w2 O2 G2 L2))
      have hB2 := below_own hB (by omega) O1 (by omega) G2
      replace B5 := B5.grown G2 (OwnI.ne' O1 h5)
      rw [List.nil_append] at O2
      clear O1 G2 L2 hB RB
      have hB := hB2
      clear hB2
      obtain ⟨A2, c2, rfl, _, _, R2⟩ := O2.reads
      have hll : (La ++ Lb).length = n + n' := by rw [List.length_append, HLa.out, HLb.out]
      rw [hll] at R2 ⊢
      clear O2
      go_upto_region 9 with fail
      have hw3 := hB.size
      have RA := HRa.out.below hB
      have RB := HRb.out.below hB
      have hj := joinH_cnt La Lb (by rw [HLa.out]; omega) (by rw [HLb.out]; omega)
      have hlen := lenF_cnt (La ++ Lb) (by rw [hll]; omega)
      rw [hll] at hlen
      have hla := cntH_len La
      have hlb := cntH_len Lb
      have hlab := cntH_len (La ++ Lb)
      have E1 := hist_eq (cntH La) hla
      have E2 := hist_eq (cntH (La ++ Lb)) hlab
      have kA : ∀ d os, Calls Try.prog 17 #[.slice A n c] (grow (redrawn w2 d) os) fun e w'' => e = .returned (.agg (hv (cntH La))) ∧ ∃ p : Regrown, w'' = grow (redrawn w2 p.d) p.os := fun d os => Calls.regrown_of (by
        have bz := below_regrown w2 d os
        exact hist_Of A n c La _ ((RA.below (bz.mono hw3)).more (Nat.le_trans hw3 bz.size)) (by omega))
      have kB : ∀ d os, Calls Try.prog 17 #[.slice A' n' c'] (grow (redrawn w2 d) os) fun e w'' => e = .returned (.agg (hv (cntH Lb))) ∧ ∃ p : Regrown, w'' = grow (redrawn w2 p.d) p.os := fun d os => Calls.regrown_of (by
        have bz := below_regrown w2 d os
        exact hist_Of A' n' c' Lb _ ((RB.below (bz.mono hw3)).more (Nat.le_trans hw3 bz.size)) (by omega))
      have kC : ∀ d os, Calls Try.prog 17 #[.slice A2 (n + n') c2] (grow (redrawn w2 d) os) fun e w'' => e = .returned (.agg (hv (cntH (La ++ Lb)))) ∧ ∃ p : Regrown, w'' = grow (redrawn w2 p.d) p.os := fun d os => Calls.regrown_of (by
        have bz := below_regrown w2 d os
        exact hist_Of A2 (n + n') c2 (La ++ Lb) _ ((R2.below bz).more bz.size) (by omega))
      have kJ : ∀ d os, Calls Try.prog 18 #[.agg (hv (cntH La)), .agg (hv (cntH Lb))] (grow (redrawn w2 d) os) fun e w'' => e = .returned (.agg (hv (cntH (La ++ Lb)))) ∧ ∃ p : Regrown, w'' = grow (redrawn w2 p.d) p.os := fun d os => Calls.regrown_of (by
        have h9 := hist_Join (cntH La) (cntH Lb) hla hlb (grow (redrawn w2 d) os)
        rw [hj] at h9
        exact h9)
      have kL : ∀ d os, Calls Try.prog 19 #[.agg (hv (cntH (La ++ Lb)))] (grow (redrawn w2 d) os) fun e w'' => e = .returned (.int .i64 ((n : Int) + (n' : Int))) ∧ ∃ p : Regrown, w'' = grow (redrawn w2 p.d) p.os := fun d os => Calls.regrown_of (by
        have h9 := hist_Len (cntH (La ++ Lb)) hlab (grow (redrawn w2 d) os)
        rw [hlen, Int.natCast_add] at h9
        exact h9)
      have kV : ∀ d os, Calls Try.prog 16 #[] (grow (redrawn w2 d) os) fun e w'' => e = .returned (.bool true) ∧ ∃ p : Regrown, w'' = grow (redrawn w2 p.d) p.os := fun d os => Calls.regrown_of (alive44 _)
      have hld : ∀ w', (∃ p : Regrown, w' = grow (redrawn w2 p.d) p.os) → (loadVar 29 ⟨w.heap.size, 0, none⟩).run Try.prog w' = .ok (.agg (hv (cntH La))) w' := by
        rintro w' ⟨⟨d, os⟩, rfl⟩
        exact run_loadVar_row _ _ _ _ (hv (cntH La)) (0, 0) _ (B5.below (below_regrown w2 d os) B5.lt) Try.underlying29 rfl (hv_size _ hla)
      generalize hv (cntH La) = ca at *
      generalize hv (cntH Lb) = cb at *
      generalize hv (cntH (La ++ Lb)) = cab at *
      clear hj hlen hla hlb hlab RA RB
      refine wp_region_quiet_below (by kernel_rfl) (by kernel_rfl) ?_
      repeat (first
        | (refine wpQuiet_load_row rfl _ _ rfl w.heap.size rfl ca hld ?_; simp only [Act.put, List.setIfInBounds_toArray, List.set_cons_succ, List.set_cons_zero])
        | go_big_quiet_step (first | with_reducible exact kA _ _ | with_reducible exact kB _ _ | with_reducible exact kC _ _ | with_reducible exact kJ _ _ | with_reducible exact kL _ _ | with_reducible exact kV _ _))
      refine wpQuiet_nil ?_
      intro _ hw'
      obtain ⟨⟨dq, osq⟩, hw''⟩ := hw'
      subst hw''
      replace hB := below_regrown_of hB hB.size dq osq
      clear kA kB kC kJ kL kV hld E1 E2
      go_wp2_with fail
      go_ret
      exact ⟨rfl, hB⟩
end Go.Proofs.Ytfebncpfhdgkpaa
