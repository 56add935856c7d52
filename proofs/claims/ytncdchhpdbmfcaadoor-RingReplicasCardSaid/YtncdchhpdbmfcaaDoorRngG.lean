/- Contract of the reference's Right. -/
import Derived.Test.YtncdchhpdbmfcaaDoorRngC
import Derived.Test.YtncdchhpdbmfcaaDoorRnL
namespace Go.Proofs.YtncdchhpdbmfcaaDoor
open Go.RowKit Go.Sort
attribute [local go_sem] lt_T lo_T not_ltT not_leT
def RightE (nodes copies : Int) (K : List ByteArray) (w : World) (e : Ending) (w' : World) : Prop := ∃ q : Bool, e = .returned (.bool q) ∧ (q = true ↔ RightR nodes copies K) ∧ Below w.heap.size w w'
theorem RightE.no {nodes copies : Int} {K : List ByteArray} {w w' : World} (h : ¬ RightR nodes copies K) (b : Below w.heap.size w w') : RightE nodes copies K w (.returned (.bool false)) w' := ⟨false, rfl, ⟨fun h2 => (by cases h2), fun h2 => absurd h2 h⟩, b⟩
theorem RightE.yes {nodes copies : Int} {K : List ByteArray} {w w' : World} (h : RightR nodes copies K) (b : Below w.heap.size w w') : RightE nodes copies K w (.returned (.bool true)) w' := ⟨true, rfl, ⟨fun _ => h, fun _ => rfl⟩, b⟩

attribute [local irreducible] NC.wpMixDk
set_option maxRecDepth 100000 in
set_option maxHeartbeats 4000000 in
theorem ref20_Right (nodes copies : Int) (A : Option Addr) (n c : Nat) (K : List ByteArray) (w : World) (hT : Tabs w) (hr : Reads w w.heap.size 1 A n (K.map Value.string)) (hn : n ≤ 9223372036854775807) (hz : ∀ s ∈ K, s.size ≤ 70368744177664)
    (h1 : -9223372036854775808 ≤ nodes) (h2 : nodes ≤ 9223372036854775807) (h3 : -9223372036854775808 ≤ copies) (h4 : copies ≤ 9223372036854775807) :
    Calls Tryd.prog 7 #[.int .i64 nodes, .int .i64 copies, .slice A n c] w (RightE nodes copies K w) := by
  have hN : K.length = n := by have := hr.1; simpa using this
  have HR := Lib.hid hr
  have HN := Lib.hid hN
  have HZ := Lib.hid hz
  clear hr hN hz
  by_cases hc : 1 ≤ nodes ∧ nodes ≤ 5 ∧ 1 ≤ copies ∧ copies ≤ nodes ∧ n ≤ 3
  · obtain ⟨cc1, cc2, cc3, cc4, cc5⟩ := hc
    go_enter Tryd.func7, Tryd.ntmps7
    go_wp2_with fail
    go_loopw [7] (fun v7 wr => ∃ i : Nat, v7 = .int .i64 i ∧ i ≤ n ∧ (∀ j, j < i → GoodK K j) ∧ Below w.heap.size w wr) (fun v7 _ => n - (intOf v7).toNat)
    case atStart => exact ⟨0, rfl, Nat.zero_le _, fun j h => by omega, Below.refl _ _⟩
    case round =>
      obtain ⟨i, rfl, hi, hG, hB⟩ := hrel
      have HG := Lib.hid hG
      clear hG
      by_cases hin : i < n
      · have hiK : i < K.length := by have := HN.out; omega
        obtain ⟨b, off, rfl, hb, hall⟩ := Reads.form HR.out (by omega)
        obtain ⟨s, hs⟩ : ∃ s, K[i]'hiK = s := ⟨_, rfl⟩
        have hget : K[i]? = some s := by rw [List.getElem?_eq_getElem hiK, hs]
        have e0 := hb_cell (below_drewN hB 1) (hall i (.string s) (by rw [List.getElem?_map, hget]; rfl))
        have hsz : s.size ≤ 70368744177664 := HZ.out s (by rw [← hs]; exact List.getElem_mem hiK)
        have hBd : Below w.heap.size w wr.drew := below_drewN hB 1
        have HC := Lib.hid (ref01_Key s hsz wr.drew (hT.below hBd))
        obtain ⟨k, hk⟩ : ∃ k, keyB s = k := ⟨_, rfl⟩
        rw [hk] at HC
        have HKK := Lib.hid hk
        have HGET := Lib.hid hget
        clear hs hget hk hsz hB
        cases k with
        | false =>
          have HNO : Hid (¬ RightR nodes copies K) := Lib.hid (fun h => by
            obtain ⟨s', h5, h6, _⟩ := h.2.2.2.2.2 i hiK
            rw [HGET.out] at h5
            injection h5 with h5
            rw [← h5, HKK.out] at h6
            cases h6)
          clear hall
          have q0 : ∀ p : Kept (fun _ => True) wr.drew, p.v.cell? ⟨b, off + i, none⟩ = some (.string s) := fun p => p.h.cell trivial e0
          go_upto_region 6 with fail
          refine NC.wp_region_mixDk (M := []) (fun _ => True) [0, 1, 2, 3, 4, 5, 6, 7, 8, 9, 10, 11, 12, 13, 14, 15, 16, 17, 18, 19, 20, 21] (by kernel_rfl) (by kernel_rfl) ?_
          iterate 4 (refine NC.mix_calmDk rfl rfl ?_; go_big_quiet_step (fail); refine wpQuiet_nil ?_)
          clear q0
          refine NC.mix_loudDk rfl (by kernel_rfl) rfl ?_
          intro K1 hK1
          have HK := Lib.hid hK1
          clear hK1
          go_wp2_with fail
          refine HC.out.mono ?_
          rintro e w1 ⟨rfl, b1⟩
          go_wp2_with fail
          refine HK.out _ _ (Stand.of_below b1) ?_
          clear HK
          iterate 17 (refine NC.mix_calmDk rfl rfl ?_; go_big_quiet_step (fail); refine wpQuiet_nil ?_)
          refine NC.mix_endDk ?_
          go_wp2_with fail
          go_ret
          exact RightE.no HNO.out (hBd.trans (b1.mono hBd.size))
        | true =>
          rcases Nat.eq_zero_or_pos i with rfl | hi0
          · clear hall
            rw [Nat.add_zero] at e0
            have q0 : ∀ p : Kept (fun _ => True) wr.drew, p.v.cell? ⟨b, off, none⟩ = some (.string s) := fun p => p.h.cell trivial e0
            go_upto_region 6 with fail
            refine NC.wp_region_mixDk (M := []) (fun _ => True) [0, 1, 2, 3, 4, 5, 6, 7, 8, 9, 10, 11, 12, 13, 14, 15, 16, 17, 18, 19, 20, 21] (by kernel_rfl) (by kernel_rfl) ?_
            iterate 4 (refine NC.mix_calmDk rfl rfl ?_; go_big_quiet_step (fail); refine wpQuiet_nil ?_)
            clear q0
            refine NC.mix_loudDk rfl (by kernel_rfl) rfl ?_
            intro K1 hK1
            have HK := Lib.hid hK1
            clear hK1
            go_wp2_with fail
            refine HC.out.mono ?_
            rintro e w1 ⟨rfl, b1⟩
            go_wp2_with fail
            refine HK.out _ _ (Stand.of_below b1) ?_
            clear HK
            iterate 17 (refine NC.mix_calmDk rfl rfl ?_; go_big_quiet_step (fail); refine wpQuiet_nil ?_)
            refine NC.mix_endDk ?_
            go_wp2_with fail
            go_roundw
            case rel => exact ⟨1, by go_num, by omega, fun j hj => by
              obtain rfl : j = 0 := by omega
              exact ⟨s, HGET.out, HKK.out, fun t h _ => by omega⟩, hBd.trans (b1.mono hBd.size)⟩
            case measure => simp [intOf]; omega
          · obtain ⟨m, rfl⟩ : ∃ m, i = m + 1 := ⟨i - 1, by omega⟩
            have hmK : m < K.length := by omega
            obtain ⟨t, ht⟩ : ∃ t, K[m]'hmK = t := ⟨_, rfl⟩
            have hget2 : K[m]? = some t := by rw [List.getElem?_eq_getElem hmK, ht]
            have e1 := hb_cell hBd (hall m (.string t) (by rw [List.getElem?_map, hget2]; rfl))
            have HGET2 := Lib.hid hget2
            have hd1 : ((m + 1 : Nat) : Int) - 1 = (m : Int) := by omega
            clear hall ht hget2
            cases hq : ltT t s with
            | false =>
              have hq2 : leT s t = true := by rw [← not_ltT, hq]; rfl
              have HNO : Hid (¬ RightR nodes copies K) := Lib.hid (fun h => by
                obtain ⟨s', h5, h6, h7⟩ := h.2.2.2.2.2 (m + 1) hiK
                rw [HGET.out] at h5
                injection h5 with h5
                have h8 := h7 t (by omega) HGET2.out
                rw [← h5, hq] at h8
                cases h8)
              have q0 : ∀ p : Kept (fun _ => True) wr.drew, p.v.cell? ⟨b, off + (m + 1), none⟩ = some (.string s) := fun p => p.h.cell trivial e0
              go_upto_region 6 with fail
              refine NC.wp_region_mixDk (M := []) (fun _ => True) [0, 1, 2, 3, 4, 5, 6, 7, 8, 9, 10, 11, 12, 13, 14, 15, 16, 17, 18, 19, 20, 21] (by kernel_rfl) (by kernel_rfl) ?_
              iterate 4 (refine NC.mix_calmDk rfl rfl ?_; go_big_quiet_step (fail); refine wpQuiet_nil ?_)
              clear q0
              refine NC.mix_loudDk rfl (by kernel_rfl) rfl ?_
              intro K1 hK1
              have HK := Lib.hid hK1
              clear hK1
              go_wp2_with fail
              refine HC.out.mono ?_
              rintro e w1 ⟨rfl, b1⟩
              go_wp2_with fail
              refine HK.out _ _ (Stand.of_below b1) ?_
              clear HK
              have q0 : ∀ p : Kept (fun _ => True) w1, p.v.cell? ⟨b, off + (m + 1), none⟩ = some (.string s) := fun p => p.h.cell trivial (hb_cell b1 e0)
              have q1 : ∀ p : Kept (fun _ => True) w1, p.v.cell? ⟨b, off + m, none⟩ = some (.string t) := fun p => p.h.cell trivial (hb_cell b1 e1)
              iterate 17 (refine NC.mix_calmDk rfl rfl ?_; go_big_quiet_step (fail); refine wpQuiet_nil ?_)
              refine NC.mix_endDk ?_
              go_wp2_with fail
              go_ret
              exact RightE.no HNO.out (hBd.trans (b1.mono hBd.size))
            | true =>
              have hq2 : leT s t = false := by rw [← not_ltT, hq]; rfl
              have HQ := Lib.hid hq
              have q0 : ∀ p : Kept (fun _ => True) wr.drew, p.v.cell? ⟨b, off + (m + 1), none⟩ = some (.string s) := fun p => p.h.cell trivial e0
              go_upto_region 6 with fail
              refine NC.wp_region_mixDk (M := []) (fun _ => True) [0, 1, 2, 3, 4, 5, 6, 7, 8, 9, 10, 11, 12, 13, 14, 15, 16, 17, 18, 19, 20, 21] (by kernel_rfl) (by kernel_rfl) ?_
              iterate 4 (refine NC.mix_calmDk rfl rfl ?_; go_big_quiet_step (fail); refine wpQuiet_nil ?_)
              clear q0
              refine NC.mix_loudDk rfl (by kernel_rfl) rfl ?_
              intro K1 hK1
              have HK := Lib.hid hK1
              clear hK1
              go_wp2_with fail
              refine HC.out.mono ?_
              rintro e w1 ⟨rfl, b1⟩
              go_wp2_with fail
              refine HK.out _ _ (Stand.of_below b1) ?_
              clear HK
              have q0 : ∀ p : Kept (fun _ => True) w1, p.v.cell? ⟨b, off + (m + 1), none⟩ = some (.string s) := fun p => p.h.cell trivial (hb_cell b1 e0)
              have q1 : ∀ p : Kept (fun _ => True) w1, p.v.cell? ⟨b, off + m, none⟩ = some (.string t) := fun p => p.h.cell trivial (hb_cell b1 e1)
              iterate 17 (refine NC.mix_calmDk rfl rfl ?_; go_big_quiet_step (fail); refine wpQuiet_nil ?_)
              refine NC.mix_endDk ?_
              go_wp2_with fail
              go_roundw
              case rel => exact ⟨m + 2, by go_num, by omega, fun j hj => by
                rcases Nat.lt_or_ge j (m + 1) with h | h
                · exact HG.out j h
                · obtain rfl : j = m + 1 := by omega
                  exact ⟨s, HGET.out, HKK.out, fun t' _ h => by
                    rw [show m + 1 - 1 = m from rfl, HGET2.out] at h
                    injection h with h
                    rw [← h]
                    exact HQ.out⟩, hBd.trans (b1.mono hBd.size)⟩
              case measure => simp [intOf]; omega
      · have hRight : RightR nodes copies K := ⟨cc1, cc2, cc3, cc4, by rw [HN.out]; exact cc5, fun j hj => HG.out j (by have := HN.out; omega)⟩
        have HRI := Lib.hid hRight
        clear hRight
        go_wp2_with fail
        go_ret
        exact RightE.yes HRI.out hB
  · have HNO : Hid (¬ RightR nodes copies K) := Lib.hid (fun h => hc ⟨h.1, h.2.1, h.2.2.1, h.2.2.2.1, by have := h.2.2.2.2.1; have := HN.out; omega⟩)
    by_cases d1 : nodes < 1
    · clear hc
      go_enter Tryd.func7, Tryd.ntmps7
      go_wp2_with fail
      go_ret
      exact RightE.no HNO.out (Below.refl _ _)
    · by_cases d2 : nodes > 5
      · clear hc
        go_enter Tryd.func7, Tryd.ntmps7
        go_wp2_with fail
        go_ret
        exact RightE.no HNO.out (Below.refl _ _)
      · by_cases d3 : copies < 1
        · clear hc
          go_enter Tryd.func7, Tryd.ntmps7
          go_wp2_with fail
          go_ret
          exact RightE.no HNO.out (Below.refl _ _)
        · by_cases d4 : copies > nodes
          · clear hc
            go_enter Tryd.func7, Tryd.ntmps7
            go_wp2_with fail
            go_ret
            exact RightE.no HNO.out (Below.refl _ _)
          · have d5 : n > 3 := by
              by_cases h : n > 3
              · exact h
              · exact absurd ⟨by omega, by omega, by omega, by omega, by omega⟩ hc
            clear hc
            go_enter Tryd.func7, Tryd.ntmps7
            go_wp2_with fail
            go_ret
            exact RightE.no HNO.out (Below.refl _ _)
end Go.Proofs.YtncdchhpdbmfcaaDoor
