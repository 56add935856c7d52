/- Contract of the law's may. -/
import Derived.Test.YtfebncpfhdgkpaaConfK
import Derived.Test.YtfebncpfhdgkpaaKeep
namespace Go.Proofs.Ytfebncpfhdgkpaa
open Go.RowKit Go.Sort Go.Shelf

theorem any_snoc {p : Int → Bool} {g : List Int} {k : Nat} (hk : k < g.length) : (g.take (k + 1)).any p = ((g.take k).any p || p g[k]) := by
  rw [List.take_succ_eq_append_getElem hk, List.any_append]
  simp

section
variable (w : World) (e : Int) (o0 o1 o2 o3 o4 : Bool) (j0 j1 j2 j3 j4 : Int)
theorem cf_at (m : Nat) (hm : m < 5) : (#[.int .i64 e, .bool o0, .bool o1, .bool o2, .bool o3, .bool o4, .int .i64 j0, .int .i64 j1, .int .i64 j2, .int .i64 j3, .int .i64 j4] : Array Value)[1 + m]? = some (.bool (cOut o0 o1 o2 o3 o4 m)) := by
  have : m = 0 ∨ m = 1 ∨ m = 2 ∨ m = 3 ∨ m = 4 := by omega
  rcases this with rfl | rfl | rfl | rfl | rfl <;> simp [cOut]
theorem cOut_bad (n : Int) (h : n < 0 ∨ 5 ≤ n) : cOut o0 o1 o2 o3 o4 n = true := by
  unfold cOut
  rw [if_neg (by omega), if_neg (by omega), if_neg (by omega), if_neg (by omega), if_neg (by omega)]

set_option maxRecDepth 100000 in
set_option maxHeartbeats 4000000 in
theorem law21_may (n : Int) (A : Option Addr) (k c : Nat) (gs : List RcI) (hl : gs.length = k) (hr : Reads w w.heap.size 1 A k (gs.map fun x : RcI => x.1)) (hR : ∀ x ∈ gs, RecI w w.heap.size x) (hS : ∀ x ∈ gs, x.2.length ≤ 1000000) (hk : k ≤ 1000000) :
    Calls Try.prog 25 #[.agg #[.int .i64 e, .bool o0, .bool o1, .bool o2, .bool o3, .bool o4, .int .i64 j0, .int .i64 j1, .int .i64 j2, .int .i64 j3, .int .i64 j4], .int .i64 n, .slice A k c] w fun x w' => x = .returned (.bool (mayB (cOut o0 o1 o2 o3 o4) (alB o0 o1 o2 o3 o4 j0 j1 j2 j3 j4) n (gs.map fun x : RcI => x.2))) ∧ Below w.heap.size w w' := by
  by_cases hbad : n < 0 ∨ 5 ≤ n
  · have HQ := Lib.hid (cOut_bad o0 o1 o2 o3 o4 n hbad)
    have hB : Below w.heap.size w (w.alloc (.cells #[.int .i64 e, .bool o0, .bool o1, .bool o2, .bool o3, .bool o4, .int .i64 j0, .int .i64 j1, .int .i64 j2, .int .i64 j3, .int .i64 j4] 37)) := (Below.refl _ _).alloc (Nat.le_refl _) _
    clear hr hR hS hl
    rcases hbad with hb | hb
    all_goals
      go_enter Try.func25, Try.ntmps25
      go_wp2_with fail
      go_ret
      exact ⟨ret_bool (by unfold mayB; rw [HQ.out]; rfl), hB⟩
  obtain ⟨m, rfl⟩ : ∃ m : Nat, n = m := ⟨n.toNat, by omega⟩
  have hm5 : m < 5 := by omega
  have B0 := Blk.new w 37 #[.int .i64 e, .bool o0, .bool o1, .bool o2, .bool o3, .bool o4, .int .i64 j0, .int .i64 j1, .int .i64 j2, .int .i64 j3, .int .i64 j4]
  have hB : Below w.heap.size w (w.alloc (.cells #[.int .i64 e, .bool o0, .bool o1, .bool o2, .bool o3, .bool o4, .int .i64 j0, .int .i64 j1, .int .i64 j2, .int .i64 j3, .int .i64 j4] 37)) := (Below.refl _ _).alloc (Nat.le_refl _) _
  have hs : w.heap.size < (w.alloc (.cells #[.int .i64 e, .bool o0, .bool o1, .bool o2, .bool o3, .bool o4, .int .i64 j0, .int .i64 j1, .int .i64 j2, .int .i64 j3, .int .i64 j4] 37)).heap.size := by simp
  have HR := Lib.hid ((hr.below hB).more hB.size)
  have HRR := Lib.hid (fun x hx => ((hR x hx).below hB).more hB.size)
  have HS := Lib.hid hS
  have HL := Lib.hid hl
  obtain ⟨q, hq⟩ : ∃ q, cOut o0 o1 o2 o3 o4 m = q := ⟨_, rfl⟩
  have q0 := B0.cell (1 + m)
  rw [cf_at e o0 o1 o2 o3 o4 j0 j1 j2 j3 j4 m hm5, hq] at q0
  have HQ := Lib.hid hq
  have hd1 : decide ((m : Int) < 0) = false := by simp
  have hd2 : decide (5 ≤ (m : Int)) = false := by simp; omega
  clear hr hR hS hl hq
  go_enter Try.func25, Try.ntmps25
  go_upto_region 1 with fail
  generalize w.alloc (.cells #[.int .i64 e, .bool o0, .bool o1, .bool o2, .bool o3, .bool o4, .int .i64 j0, .int .i64 j1, .int .i64 j2, .int .i64 j3, .int .i64 j4] 37) = W at *
  cases q
  case true =>
    go_wp2_with fail
    go_ret
    exact ⟨ret_bool (by unfold mayB; rw [HQ.out]; rfl), hB⟩
  have hb1 := Below.refl W.heap.size W
  go_wp2_with fail
  go_loopw [7, 8, 9, 10] (fun v7 _ _ _ wr => ∃ i : Nat, v7 = .int .i64 i ∧ i ≤ k ∧ (∀ x ∈ gs.take i, okg (alB o0 o1 o2 o3 o4 j0 j1 j2 j3 j4) m x.2 = true) ∧ Below W.heap.size W wr ∧ Below w.heap.size w wr) (fun v7 _ _ _ _ => k - (intOf v7).toNat)
  case atStart => exact ⟨0, rfl, Nat.zero_le _, by simp, hb1, hB⟩
  case round =>
    clear hb1 hB q0
    obtain ⟨i, rfl, hik, hall, hb, hB⟩ := hrel
    obtain ⟨wo, hwo⟩ : ∃ wo, wo = wr := ⟨_, rfl⟩
    subst hwo
    have HALL := Lib.hid hall
    clear hall
    by_cases hi : i < k
    · obtain ⟨b, off, hbo, hbW, hc⟩ := Reads.form (HR.out.below hb) (by omega)
      subst hbo
      have hil : i < gs.length := by have := HL.out; omega
      have q0 := hc i gs[i].1 (by simp [hil])
      obtain ⟨Ai, ci, hei, _, _, Ri⟩ := HRR.out gs[i] (List.getElem_mem hil)
      have hli := HS.out gs[i] (List.getElem_mem hil)
      have hsn := all_snoc (p := okg (alB o0 o1 o2 o3 o4 j0 j1 j2 j3 j4) m) HALL.out hil
      rw [hei] at q0
      have hmem : gs[i].2 ∈ gs.map (fun x : RcI => x.2) := List.mem_map_of_mem (List.getElem_mem hil)
      generalize gs[i].2 = g at *
      obtain ⟨ni, hni⟩ : ∃ ni, g.length = ni := ⟨_, rfl⟩
      rw [hni] at q0 hli Ri
      have HSN := Lib.hid hsn
      have HMEM := Lib.hid hmem
      have HNI := Lib.hid hni
      have HRi := Lib.hid Ri
      have HQ0 := Lib.hid q0
      have hok : okg (alB o0 o1 o2 o3 o4 j0 j1 j2 j3 j4) m g = !(g.any (fun y => (m : Int) == y) && !g.any (fun x => (x != (m : Int)) && alB o0 o1 o2 o3 o4 j0 j1 j2 j3 j4 x)) := rfl
      have HOK := Lib.hid hok
      have hbr := Below.refl wo.heap.size wo
      clear hsn hmem hei hc hni Ri hok
      go_wp2_with fail
      go_loopw [8, 9, 10] (fun v8 v9 v10 wr => ∃ kk : Nat, v10 = .int .i64 kk ∧ kk ≤ ni ∧ v8 = .bool ((g.take kk).any fun y => (m : Int) == y) ∧ v9 = .bool ((g.take kk).any fun x => (x != (m : Int)) && alB o0 o1 o2 o3 o4 j0 j1 j2 j3 j4 x) ∧ Below wo.heap.size wo wr ∧ Below w.heap.size w wr) (fun _ _ v10 _ => ni - (intOf v10).toNat)
      case atStart => exact ⟨0, rfl, Nat.zero_le _, by simp, by simp, hbr, hB⟩
      case round =>
        clear hbr hB q0
        obtain ⟨kk, rfl, hkk, rfl, rfl, hbq, hB⟩ := hrel
        have q0 := hb_cell hbq HQ0.out
        by_cases hki : kk < ni
        · obtain ⟨b2, off2, hbo2, _, hc2⟩ := Reads.form ((HRi.out.below hb).below (hbq.mono hb.size)) (by omega)
          subst hbo2
          have hkl : kk < g.length := by have := HNI.out; omega
          have q1 := hc2 kk (vi g[kk]) (by simp [hkl])
          unfold vi at q1
          have ha1 := any_snoc (p := fun y => (m : Int) == y) hkl
          have ha2 := any_snoc (p := fun x => (x != (m : Int)) && alB o0 o1 o2 o3 o4 j0 j1 j2 j3 j4 x) hkl
          have HA1 := Lib.hid ha1
          have HA2 := Lib.hid ha2
          clear hc2 ha1 ha2
          generalize g[kk] = x at *
          generalize (g.take kk).any (fun y => (m : Int) == y) = in0 at *
          generalize (g.take kk).any (fun x => (x != (m : Int)) && alB o0 o1 o2 o3 o4 j0 j1 j2 j3 j4 x) = ot0 at *
          have hx : (x == (m : Int)) = ((m : Int) == x) := by rw [Bool.eq_iff_iff]; simp; omega
          have HX := Lib.hid hx
          have hxn : (x != (m : Int)) = !((m : Int) == x) := by unfold bne; rw [hx]
          have c0 := (B0.below (hb.trans (hbq.mono hb.size)) hs).cell
          have hc0 : Hid (∀ d os i, (grow (redrawn wr d) os).cell? ⟨w.heap.size, i, none⟩ = (#[.int .i64 e, .bool o0, .bool o1, .bool o2, .bool o3, .bool o4, .int .i64 j0, .int .i64 j1, .int .i64 j2, .int .i64 j3, .int .i64 j4] : Array Value)[i]?) := Lib.hid (fun d os i => by
            have h9 := (B0.below ((hb.trans (hbq.mono hb.size)).trans ((below_regrown wr d os).mono (Nat.le_trans hb.size hbq.size))) hs).cell i
            exact h9)
          obtain ⟨eq, heq⟩ : ∃ eq, ((m : Int) == x) = eq := ⟨_, rfl⟩
          rw [heq] at hx hxn HA1
          rw [hxn] at HA2
          clear hxn
          clear c0
          cases in0
          all_goals
            go_upto_region 11 with fail
            cases ot0
            case' false =>
              cases eq
              case' false =>
                have hne : (x != (m : Int)) = true := by unfold bne; rw [hx]; rfl
                have q0' := cell_regrown q0
                have q1' := cell_regrown q1
                have c0 := hc0.out
                have kq := fun d os => Calls.regrown_of (law21_always (grow (redrawn wr d) os) e o0 o1 o2 o3 o4 j0 j1 j2 j3 j4 x)
                refine wp_region_quiet_below (by kernel_rfl) (by kernel_rfl) ?_
                repeat (go_big_quiet_step (exact kq _ _))
              case' true =>
                have hne : (x != (m : Int)) = false := by unfold bne; rw [hx]; rfl
                have q0' := cell_regrown q0
                have q1' := cell_regrown q1
                refine wp_region_quiet_below (by kernel_rfl) (by kernel_rfl) ?_
                repeat (go_big_quiet_step (fail))
            case' true =>
              refine wp_region_quiet_below (by kernel_rfl) (by kernel_rfl) ?_
              repeat (go_big_quiet_step (fail))
          all_goals
            refine wpQuiet_nil ?_
            intro _ hw'
            obtain ⟨⟨dq, osq⟩, hw''⟩ := hw'
            subst hw''
            have bq := below_regrown wr dq osq
            replace hbq := hbq.trans (bq.mono hbq.size)
            replace hB := hB.trans (bq.mono hB.size)
            clear bq
            generalize grow (redrawn wr dq) osq = w9 at *
            clear q0 q1
            go_wp2_with fail
            go_roundw
            case rel => exact ⟨kk + 1, by go_num, by omega, by rw [HA1.out]; simp, by rw [HA2.out]; simp, hbq, hB⟩
            case measure => simp [intOf]; omega
        · have hke : kk = ni := by omega
          subst hke
          have hd9 : decide (kk < kk) = false := by simp
          have htk : g.take kk = g := List.take_of_length_le (by have := HNI.out; omega)
          rw [htk]
          obtain ⟨a1, ha1⟩ : ∃ a1, g.any (fun y => (m : Int) == y) = a1 := ⟨_, rfl⟩
          obtain ⟨a2, ha2⟩ : ∃ a2, g.any (fun x => (x != (m : Int)) && alB o0 o1 o2 o3 o4 j0 j1 j2 j3 j4 x) = a2 := ⟨_, rfl⟩
          rw [ha1, ha2] at HOK
          rw [ha1, ha2]
          replace hb := hb.trans (hbq.mono hb.size)
          clear ha1 ha2 htk hbq
          cases a1
          case false =>
            go_wp2_with fail
            go_roundw
            case rel => exact ⟨i + 1, by go_num, by omega, HSN.out (by rw [HOK.out]; rfl), hb, hB⟩
            case measure => simp [intOf]; omega
          case true =>
            cases a2
            case true =>
              go_wp2_with fail
              go_roundw
              case rel => exact ⟨i + 1, by go_num, by omega, HSN.out (by rw [HOK.out]; rfl), hb, hB⟩
              case measure => simp [intOf]; omega
            case false =>
              go_wp2_with fail
              go_ret
              refine ⟨ret_bool ?_, hB⟩
              unfold mayB
              have : (gs.map fun x : RcI => x.2).all (okg (alB o0 o1 o2 o3 o4 j0 j1 j2 j3 j4) m) = false := List.all_eq_false.2 ⟨g, HMEM.out, by rw [HOK.out]; decide⟩
              rw [this, Bool.and_false]
    · have HX : Hid (mayB (cOut o0 o1 o2 o3 o4) (alB o0 o1 o2 o3 o4 j0 j1 j2 j3 j4) m (gs.map fun x : RcI => x.2) = true) := Lib.hid (by
        unfold mayB
        rw [HQ.out]
        simp only [Bool.not_false, Bool.true_and]
        rw [List.all_eq_true]
        intro x hx
        obtain ⟨y, hy, rfl⟩ := List.mem_map.1 hx
        refine HALL.out y ?_
        rw [List.take_of_length_le (by have := HL.out; omega)]
        exact hy)
      go_wp2_with fail
      go_ret
      exact ⟨ret_bool HX.out.symm, hB⟩
end
end Go.Proofs.Ytfebncpfhdgkpaa
