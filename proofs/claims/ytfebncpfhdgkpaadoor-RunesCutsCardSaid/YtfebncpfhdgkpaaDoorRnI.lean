/- Contracts of runes.Count, runes.Cut, and the reference's first and Cut. -/
import Derived.Test.YtfebncpfhdgkpaaDoorRnQ
import Derived.Test.YtfebncpfhdgkpaaDoorRnH
namespace Go.Proofs.YtfebncpfhdgkpaaDoor
open Go.RowKit Go.Sort Go.Lib

set_option maxRecDepth 100000 in
set_option maxHeartbeats 1000000 in
theorem runes_Count (s : ByteArray) (hs : s.size ≤ 9223372036854775000) (w : World) : Calls Tryd.prog 13 #[.string s] w fun e w' => e = .returned (.int .i64 ((prs s 0).length : Nat)) ∧ Below w.heap.size w w' := by
  have hl := prs_len s 0
  obtain ⟨C, hC⟩ : ∃ C, (prs s 0).length = C := ⟨_, rfl⟩
  have HC := Lib.hid hC
  rw [hC] at hl ⊢
  clear hC
  go_enter Tryd.func13, Tryd.ntmps13
  go_wp2_with fail
  go_loopw [3] (fun v3 wr => ∃ (k n : Nat), v3 = .int .i64 n ∧ It wr w.heap.size s k ∧ Below w.heap.size w wr ∧ n + (prs s k).length = C) (fun _ wr => s.size - wr.iterPos w.heap.size)
  case atStart => exact ⟨0, 0, rfl, It.new _ _ _, below_iter (Below.refl _ _) (Nat.le_refl _) _ _, by rw [← HC.out]; omega⟩
  case round =>
    obtain ⟨k, n, rfl, BI, hB, hn⟩ := hrel
    have HPOS := Lib.hid BI.pos
    have HN := Lib.hid hn
    have hnC : n ≤ C := by omega
    clear hn
    by_cases hk : k < s.size
    · obtain ⟨r, d, hD, hd1, hr, _⟩ := decode_some s k hk
      have hnx : ∀ ty, (Instr.next (.pointer (some ⟨w.heap.size, 0, none⟩)) true ty).run Tryd.prog wr = .ok (.tuple #[.bool true, .int .i64 k, .int .i32 r]) (wr.iterAt w.heap.size s (k + d)) := by
        intro ty
        rw [Lib.run_next_any_at wr _ s k ty BI hk, hD]
      have BI2 := BI.at_ (k + d)
      have hB2 := Lib.below_iterAt hB (k := w.heap.size) (Nat.le_refl _) s (k + d)
      have HX : Hid (n + 1 + (prs s (k + d)).length = C) := Lib.hid (by
        have := HN.out
        rw [prs_cons s k hk hD hd1, List.length_cons] at this
        omega)
      clear hD BI hB
      go_wp2_with fail
      go_roundw
      case rel => exact ⟨k + d, n + 1, by go_num, BI2, hB2, HX.out⟩
      case measure => rw [BI2.pos, HPOS.out]; omega
    · have hnx : ∀ ty, (Instr.next (.pointer (some ⟨w.heap.size, 0, none⟩)) true ty).run Tryd.prog wr = .ok (.tuple #[.bool false]) wr := fun ty => Lib.run_next_end_at wr _ s k ty BI hk
      have HX : Hid (n = C) := Lib.hid (by
        have := HN.out
        rw [prs_end s k (by omega)] at this
        simpa using this)
      go_wp2_with fail
      go_ret
      exact ⟨ret_i (by rw [← HX.out]), hB⟩

set_option maxRecDepth 100000 in
set_option maxHeartbeats 1000000 in
theorem runes_Cut (s : ByteArray) (n : Int) (hs : s.size ≤ 1000000000) (w : World) : Calls Tryd.prog 11 #[.string s, .int .i64 n] w fun e w' => e = .returned (.string (s.extract 0 (cutP s n.toNat 0))) ∧ Below w.heap.size w w' := by
  obtain ⟨C, hC⟩ : ∃ C, cutP s n.toNat 0 = C := ⟨_, rfl⟩
  have HC := Lib.hid hC
  rw [hC]
  clear hC
  go_enter Tryd.func11, Tryd.ntmps11
  go_wp2_with fail
  go_loopw [5, 6] (fun v5 _ wr => ∃ (k m : Nat), v5 = .int .i64 m ∧ m ≤ k ∧ k ≤ s.size ∧ It wr w.heap.size s k ∧ Below w.heap.size w wr ∧ cutP s (n.toNat - m) k = C) (fun _ _ wr => s.size - wr.iterPos w.heap.size)
  case atStart => exact ⟨0, 0, rfl, Nat.le_refl _, Nat.zero_le _, It.new _ _ _, below_iter (Below.refl _ _) (Nat.le_refl _) _ _, HC.out⟩
  case round =>
    obtain ⟨k, m, rfl, hmk, hks, BI, hB, hn⟩ := hrel
    have HPOS := Lib.hid BI.pos
    have HN := Lib.hid hn
    clear hn
    by_cases hk : k < s.size
    · obtain ⟨r, d, hD, hd1, hr, _⟩ := decode_some s k hk
      have hnx : ∀ ty, (Instr.next (.pointer (some ⟨w.heap.size, 0, none⟩)) true ty).run Tryd.prog wr = .ok (.tuple #[.bool true, .int .i64 k, .int .i32 r]) (wr.iterAt w.heap.size s (k + d)) := by
        intro ty
        rw [Lib.run_next_any_at wr _ s k ty BI hk, hD]
      have BI2 := BI.at_ (k + d)
      have hB2 := Lib.below_iterAt hB (k := w.heap.size) (Nat.le_refl _) s (k + d)
      have hkd := (rune_tail s k hk hD).1
      have HD := Lib.hid hD
      clear hD BI hB
      by_cases hm : n ≤ m
      · have hd2 : decide (n ≤ (m : Int)) = true := by simp; omega
        have HX : Hid (k = C) := Lib.hid (by
          have := HN.out
          rw [show n.toNat - m = 0 by omega, cutP] at this
          exact this)
        go_wp2_with fail
        go_ret
        exact ⟨by rw [← HX.out]; rfl, hB2⟩
      · have hd2 : decide (n ≤ (m : Int)) = false := by simp; omega
        have HX : Hid (cutP s (n.toNat - (m + 1)) (k + d) = C) := Lib.hid (by
          have := HN.out
          rw [show n.toNat - m = (n.toNat - (m + 1)) + 1 by omega, cutP_step s _ k hk HD.out] at this
          exact this)
        go_wp2_with fail
        go_roundw
        case rel => exact ⟨k + d, m + 1, by go_num, by omega, by omega, BI2, hB2, HX.out⟩
        case measure => rw [BI2.pos, HPOS.out]; omega
    · have hnx : ∀ ty, (Instr.next (.pointer (some ⟨w.heap.size, 0, none⟩)) true ty).run Tryd.prog wr = .ok (.tuple #[.bool false]) wr := fun ty => Lib.run_next_end_at wr _ s k ty BI hk
      have HX : Hid (s = s.extract 0 C) := Lib.hid (by
        have := HN.out
        rw [cutP_end s _ k (by omega)] at this
        rw [← this, show k = s.size by omega, ByteArray.extract_zero_size])
      go_wp2_with fail
      go_ret
      exact ⟨by rw [← HX.out]; rfl, hB⟩

set_option maxRecDepth 100000 in
set_option maxHeartbeats 1000000 in
theorem ref01_first (s : ByteArray) (p r d : Nat) (hD : Utf8.decode s p = (r, d)) (hp : p < s.size) (w : World) (hT : Tabs w) :
    Calls Tryd.prog 16 #[.string (s.extract p s.size)] w fun e w' => e = .returned (.tuple #[.int .i64 d, .bool (!badD r d)]) ∧ Below w.heap.size w w' := by
  have HC := Lib.hid (Tryd.utf8_DecodeRuneInString (s.extract p s.size) w hT)
  rw [decodeGo_at s p hp, hD] at HC
  clear hT hD
  go_enter Tryd.func16, Tryd.ntmps16
  go_wp2_with fail
  refine HC.out.mono ?_
  clear HC
  rintro e w1 ⟨rfl, b1⟩
  by_cases hr : r = 65533
  · subst hr
    have hne : ((65533 : Int) != 65533) = false := by decide
    by_cases hd : d < 2
    · have hd2 : decide (1 < (d : Int)) = false := by simp; omega
      have H : Hid (badD 65533 d = true) := Lib.hid (by unfold badD; simp; omega)
      go_wp2_with fail
      go_ret2
      exact ⟨by rw [H.out]; rfl, b1⟩
    · have hd2 : decide (1 < (d : Int)) = true := by simp; omega
      have H : Hid (badD 65533 d = false) := Lib.hid (by unfold badD; simp; omega)
      go_wp2_with fail
      go_ret2
      exact ⟨by rw [H.out]; rfl, b1⟩
  · have hne : ((r : Int) != 65533) = true := by simp; omega
    have H : Hid (badD r d = false) := Lib.hid (by unfold badD; simp [hr])
    go_wp2_with fail
    go_ret2
    exact ⟨by rw [H.out]; rfl, b1⟩

set_option maxRecDepth 100000 in
set_option maxHeartbeats 1000000 in
theorem ref01_Cut (s : ByteArray) (n : Int) (hs : s.size ≤ 1000000000) (w : World) (hT : Tabs w) : Calls Tryd.prog 12 #[.string s, .int .i64 n] w fun e w' => e = .returned (.string (s.extract 0 (cutP s n.toNat 0))) ∧ Below w.heap.size w w' := by
  obtain ⟨C, hC⟩ : ∃ C, cutP s n.toNat 0 = C := ⟨_, rfl⟩
  have HC := Lib.hid hC
  have HT := Lib.hid hT
  rw [hC]
  clear hC hT
  go_enter Tryd.func12, Tryd.ntmps12
  go_wp2_with fail
  go_loopw [5, 6, 7, 8] (fun v5 v6 _ _ wr => ∃ (k m : Nat), v5 = .int .i64 k ∧ v6 = .int .i64 m ∧ m ≤ k ∧ k ≤ s.size ∧ Below w.heap.size w wr ∧ cutP s (n.toNat - m) k = C) (fun v5 _ _ _ _ => s.size - (RowKit.intOf v5).toNat)
  case atStart => exact ⟨0, 0, rfl, rfl, Nat.le_refl _, Nat.zero_le _, Below.refl _ _, HC.out⟩
  case round =>
    obtain ⟨k, m, rfl, rfl, hmk, hks, hB, hn⟩ := hrel
    have HN := Lib.hid hn
    clear hn
    by_cases hm : (m : Int) < n
    · have hd2 : decide ((m : Int) < n) = true := by simp; omega
      by_cases hk : k < s.size
      · obtain ⟨r, d, hD, hd1, hr, _⟩ := decode_some s k hk
        have hkd := (rune_tail s k hk hD).1
        have HF := Lib.hid (ref01_first s k r d hD hk wr (HT.out.below hB))
        have HX : Hid (cutP s (n.toNat - (m + 1)) (k + d) = C) := Lib.hid (by
          have := HN.out
          rw [show n.toNat - m = (n.toNat - (m + 1)) + 1 by omega, cutP_step s _ k hk hD] at this
          exact this)
        clear hD
        go_wp2_with fail
        refine HF.out.mono ?_
        clear HF
        rintro e w1 ⟨rfl, b1⟩
        replace hB := hB.trans (b1.mono hB.size)
        clear b1
        go_wp2_with fail
        go_roundw
        case rel => exact ⟨k + d, m + 1, by go_num, by go_num, by omega, by omega, hB, HX.out⟩
        case measure => simp [RowKit.intOf]; omega
      · have HX : Hid (k = C) := Lib.hid (by
          have := HN.out
          rw [cutP_end s _ k (by omega)] at this
          exact this)
        go_wp2_with fail
        go_ret
        exact ⟨by rw [← HX.out]; rfl, hB⟩
    · have hd2 : decide ((m : Int) < n) = false := by simp; omega
      have HX : Hid (k = C) := Lib.hid (by
        have := HN.out
        rw [show n.toNat - m = 0 by omega, cutP] at this
        exact this)
      go_wp2_with fail
      go_ret
      exact ⟨by rw [← HX.out]; rfl, hB⟩
end Go.Proofs.YtfebncpfhdgkpaaDoor
