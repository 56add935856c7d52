/- Contract of the reference's Quote. -/
import Derived.Test.YtimmfcbpdnlfjaaDoorRnX
namespace Go.Proofs.YtimmfcbpdnlfjaaDoor
open Go.RowKit Go.Sort Go.Lib

theorem esc_str (t : ByteArray) (c : UInt8) : bl (t ++ ((⟨#[92, 120]⟩ ++ ⟨[figC (c.toNat / 16)].toArray⟩) ++ ⟨[figC (c.toNat % 16)].toArray⟩)) = bl t ++ escB c := by
  rw [bl_append, bl_append, bl_append]
  rfl

set_option maxRecDepth 100000 in
set_option maxHeartbeats 4000000 in
theorem ref01_Quote (s : ByteArray) (hs : s.size ≤ 1000000000) (w : World) (hT : Tabs w) : Calls Tryd.prog 53 #[.string s] w fun e w' => e = .returned (.string ⟨(quoteP s).toArray⟩) ∧ Below w.heap.size w w' := by
  obtain ⟨Q, hQ⟩ : ∃ Q, quoteP s = Q := ⟨_, rfl⟩
  have HQ := Lib.hid hQ
  have HT := Lib.hid hT
  rw [hQ]
  clear hQ hT
  go_enter Tryd.func53, Tryd.ntmps53
  go_wp2_with fail
  go_loopw [4, 5, 6, 7, 8] (fun v4 v5 _ _ _ wr => ∃ (k : Nat) (t : ByteArray), v5 = .int .i64 k ∧ v4 = .string t ∧ k ≤ s.size ∧ t.size ≤ 4 * k + 1 ∧ Below w.heap.size w wr ∧ bl t ++ (bq s k ++ [34]) = Q) (fun _ v5 _ _ _ _ => s.size - (RowKit.intOf v5).toNat)
  case atStart => exact ⟨0, ⟨#[34]⟩, rfl, rfl, Nat.zero_le _, by decide, Below.refl _ _, by rw [← HQ.out]; rfl⟩
  case round =>
    obtain ⟨k, t, rfl, rfl, hks, htk, hB, hI⟩ := hrel
    have HI := Lib.hid hI
    clear hI
    by_cases hk : k < s.size
    · obtain ⟨r, d, hD, hd1, hr, hcase⟩ := decode_some s k hk
      have HC := Lib.hid (ref01_first s k r d hD hk wr (HT.out.below hB))
      have hq1 := q1_of hk hD
      have HX : Hid (∀ t2 : ByteArray, bl t2 = bl t ++ q1 s k → bl t2 ++ (bq s (k + d) ++ [34]) = Q) := Lib.hid (fun t2 h2 => by
        rw [h2, List.append_assoc, ← List.append_assoc (q1 s k), ← bq_step s k hk hD hd1]
        exact HI.out)
      have HQ1 := Lib.hid hq1
      have hkd := (rune_tail s k hk hD).1
      have HCA := Lib.hid hcase
      have HBD := Lib.hid (bl_drop s k hk)
      have hcb := (s[k]).toNat_lt
      clear hD hq1 hcase
      go_wp2_with fail
      refine HC.out.mono ?_
      clear HC
      rintro e w3 ⟨rfl, b3⟩
      replace hB := hB.trans (b3.mono hB.size)
      clear b3
      obtain ⟨q, hq⟩ : ∃ q, badD r d = q := ⟨_, rfl⟩
      have HBq := Lib.hid hq
      rw [hq]
      obtain ⟨x, hx⟩ : ∃ x, s[k].toNat = x := ⟨_, rfl⟩
      have hte : toEsc (badD r d) s[k] = (q || decide (x < 32) || x == 127) := by rw [hq, ← hx]; rfl
      have HTE := Lib.hid hte
      have HXX := Lib.hid hx
      clear hq hte
      by_cases hE : q = true ∨ x < 32 ∨ x = 127
      · have hte1 : (q || decide (x < 32) || x == 127) = true := by
          rcases hE with h | h | h
          · simp [h]
          · simp [h]
          · simp [h]
        have hd11 : d = 1 := by
          have h1 := HCA.out
          have h2 := HBq.out
          rw [hx] at h1
          rcases hE with h | h | h
          · rw [h] at h2
            unfold badD at h2
            rw [decide_eq_true_eq] at h2
            omega
          · omega
          · omega
        subst hd11
        have hc1 := figs_cut (x / 16) (by omega) ((x : Int) / 16) ((x : Int) / 16 + 1) (by omega) (by omega)
        have hc2 := figs_cut (x % 16) (by omega) ((x : Int) % 16) ((x : Int) % 16 + 1) (by omega) (by omega)
        unfold FIGS at hc1 hc2
        have HX2 : Hid (bl (t ++ ((⟨#[92, 120]⟩ ++ ⟨[figC (x / 16)].toArray⟩) ++ ⟨[figC (x % 16)].toArray⟩)) ++ (bq s (k + 1) ++ [34]) = Q) := Lib.hid (HX.out _ (by rw [← hx, esc_str, HQ1.out, HTE.out, if_pos hte1]))
        have SZ : (t ++ ((⟨#[92, 120]⟩ ++ ⟨[figC (x / 16)].toArray⟩) ++ ⟨[figC (x % 16)].toArray⟩)).size ≤ 4 * (k + 1) + 1 := by
          rw [ByteArray.size_append]
          show t.size + 4 ≤ _
          omega
        have HSZ := Lib.hid SZ
        have HC12 := Lib.hid (And.intro hc1 hc2)
        clear hc1 hc2 hte1 SZ
        rcases hE with hE | hE | hE
        case' inl => subst hE
        case' inr.inl =>
          have hl32 : decide ((x : Int) < 32) = true := by simp; omega
          cases q
        case' inr.inr =>
          have hl32 : decide ((x : Int) < 32) = false := by simp; omega
          have h127 : ((x : Int) == 127) = true := by simp; omega
          clear hE
          cases q
        all_goals
          go_upto_region 8 with fail
          obtain ⟨hc1, hc2⟩ := HC12.out
          refine wp_region_quiet_below (by kernel_rfl) (by kernel_rfl) ?_
          repeat (go_big_quiet_step (fail))
          refine wpQuiet_nil ?_
          intro _ hw'
          obtain ⟨⟨dq, osq⟩, hw''⟩ := hw'
          subst hw''
          replace hB := hB.trans ((below_regrown w3 dq osq).mono hB.size)
          clear hc1 hc2
          go_wp2_with fail
          go_roundw
          case rel => exact ⟨k + 1, _, by go_num, rfl, by omega, HSZ.out, hB, HX2.out⟩
          case measure => simp [RowKit.intOf]; omega
      · have hqf : q = false := by
          cases q
          · rfl
          · exact absurd (.inl rfl) hE
        subst hqf
        have h32 : decide ((x : Int) < 32) = false := by simp; omega
        have h127 : ((x : Int) == 127) = false := by simp; omega
        have hte0 : (false || decide (x < 32) || x == 127) = false := by simp; omega
        by_cases hsg : x = 34 ∨ x = 92
        · have hd11 : d = 1 := by have h1 := HCA.out; rw [hx] at h1; omega
          subst hd11
          have hone := bl_one s k hk
          have HX2 : Hid (bl (t ++ (⟨#[92]⟩ ++ s.extract k (k + 1))) ++ (bq s (k + 1) ++ [34]) = Q) := Lib.hid (HX.out _ (by
            rw [bl_append, bl_append, hone, HQ1.out, HTE.out, hte0, if_neg (by simp), if_pos (by rw [hx]; exact hsg)]
            rfl))
          have hes : (s.extract k (k + 1)).size = 1 := by rw [ByteArray.size_extract]; omega
          have SZ : (t ++ (⟨#[92]⟩ ++ s.extract k (k + 1))).size ≤ 4 * (k + 1) + 1 := by
            rw [ByteArray.size_append, ByteArray.size_append, hes]
            show t.size + (1 + 1) ≤ _
            omega
          have HSZ := Lib.hid SZ
          have hcut := fun w => cut_mid Tryd.underlying9 s k (k + 1) (by omega) (by omega) w
          rw [show ((k + 1 : Nat) : Int) = (k : Int) + 1 by omega] at hcut
          clear hone SZ hte0
          rcases hsg with hsg | hsg
          · have h34 : ((x : Int) == 34) = true := by simp; omega
            clear hsg
            go_wp2_with fail
            go_roundw
            case rel => exact ⟨k + 1, _, by go_num, rfl, by omega, HSZ.out, hB, HX2.out⟩
            case measure => simp [RowKit.intOf]; omega
          · have h34 : ((x : Int) == 34) = false := by simp; omega
            have h92 : ((x : Int) == 92) = true := by simp; omega
            clear hsg
            go_wp2_with fail
            go_roundw
            case rel => exact ⟨k + 1, _, by go_num, rfl, by omega, HSZ.out, hB, HX2.out⟩
            case measure => simp [RowKit.intOf]; omega
        · have h34 : ((x : Int) == 34) = false := by simp; omega
          have h92 : ((x : Int) == 92) = false := by simp; omega
          have hex : bl (s.extract k (k + d)) = ((bl s).drop k).take d := by
            rw [bl_extract, List.drop_take, Nat.add_sub_cancel_left]
          have HX2 : Hid (bl (t ++ s.extract k (k + d)) ++ (bq s (k + d) ++ [34]) = Q) := Lib.hid (HX.out _ (by
            rw [bl_append, hex, HQ1.out, HTE.out, hte0, if_neg (by simp), if_neg (by rw [hx]; omega)]))
          have hes : (s.extract k (k + d)).size = d := by rw [ByteArray.size_extract]; omega
          have SZ : (t ++ s.extract k (k + d)).size ≤ 4 * (k + d) + 1 := by
            rw [ByteArray.size_append, hes]
            omega
          have HSZ := Lib.hid SZ
          have hcut := fun w => cut_mid Tryd.underlying9 s k (k + d) (by omega) (by omega) w
          rw [show ((k + d : Nat) : Int) = (k : Int) + d by omega] at hcut
          clear hex SZ hte0
          go_wp2_with fail
          go_roundw
          case rel => exact ⟨k + d, _, by go_num, rfl, by omega, HSZ.out, hB, HX2.out⟩
          case measure => simp [RowKit.intOf]; omega
    · have HX2 : Hid (t ++ ⟨#[34]⟩ = ⟨Q.toArray⟩) := Lib.hid (str_is _ _ (by
        have := HI.out
        rw [bq_end s k (by omega)] at this
        rw [bl_append]
        exact this))
      go_wp2_with fail
      go_ret
      exact ⟨by rw [← HX2.out]; rfl, hB⟩
end Go.Proofs.YtimmfcbpdnlfjaaDoor
