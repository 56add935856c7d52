/- Contracts of fold's digit, bare and number, and of the reference's small, digit, text and number. -/
import Derived.Test.YtfkooohnaodjmaaFolP
import Derived.Deep.Cut
import Derived.Lib.OthersKept
namespace Go.Proofs.Ytfkooohnaodjmaa
open Go.RowKit Go.Sort

theorem ret_bF {a b : Bool} (h : a = b) : Ending.returned (.bool a) = .returned (.bool b) := by rw [h]
theorem ret_iF {a b : Int} (h : a = b) : Ending.returned (.int .i64 a) = .returned (.int .i64 b) := by rw [h]
theorem ret_sF {a b : ByteArray} (h : a = b) : Ending.returned (.string a) = .returned (.string b) := by rw [h]
set_option maxRecDepth 100000 in
theorem fold_digit (r : Nat) (w : World) : Calls Try.prog 55 #[.int .i32 r] w fun e w' => e = .returned (.bool (dig r)) ∧ w = w' := by
  rcases (show r < 48 ∨ (48 ≤ r ∧ r ≤ 57) ∨ 57 < r by omega) with h | h | h
  case' inl => rw [show dig r = false by unfold dig; simp; omega]
  case' inr.inl => rw [show dig r = true by unfold dig; simp; omega]
  case' inr.inr => rw [show dig r = false by unfold dig; simp; omega]
  all_goals
    go_enter Try.func55, Try.ntmps55
    go_wp2_with fail
    go_ret
    exact ⟨by first | rfl | (simp; done) | (simp; omega), rfl⟩
set_option maxRecDepth 100000 in
theorem ref39_digit (r : Nat) (w : World) : Calls Try.prog 59 #[.int .i32 r] w fun e w' => e = .returned (.bool (dig r)) ∧ w = w' := by
  rcases (show r < 48 ∨ (48 ≤ r ∧ r ≤ 57) ∨ 57 < r by omega) with h | h | h
  case' inl => rw [show dig r = false by unfold dig; simp; omega]
  case' inr.inl => rw [show dig r = true by unfold dig; simp; omega]
  case' inr.inr => rw [show dig r = false by unfold dig; simp; omega]
  all_goals
    go_enter Try.func59, Try.ntmps59
    go_wp2_with fail
    go_ret
    exact ⟨by first | rfl | (simp; done) | (simp; omega), rfl⟩
set_option maxRecDepth 100000 in
theorem ref39_small (r : Nat) (w : World) : Calls Try.prog 68 #[.int .i32 r] w fun e w' => e = .returned (.int .i32 (small r)) ∧ w = w' := by
  rcases (show r < 65 ∨ (65 ≤ r ∧ r ≤ 90) ∨ 90 < r by omega) with h | h | h
  case' inl => rw [show small r = r by unfold small; rw [if_neg (by omega)]]
  case' inr.inl => rw [show small r = r + 32 by unfold small; rw [if_pos h]]
  case' inr.inr => rw [show small r = r by unfold small; rw [if_neg (by omega)]]
  all_goals
    go_enter Try.func68, Try.ntmps68
    go_wp2_with fail
    go_ret
    exact ⟨by first | rfl | (congr 1; go_num), rfl⟩
set_option maxRecDepth 100000 in
theorem ref39_text (a b : ByteArray) (w : World) : Calls Try.prog 42 #[.string a, .string b] w fun e w' => e = .returned (.int .i64 (cmpT a b)) ∧ w = w' := by
  rcases cmpT_cases a b with ⟨h1, h2⟩ | ⟨h1, h2, h3⟩ | ⟨h1, h2, h3⟩
  case' inl => rw [h2]; clear h2
  case' inr.inl => rw [h3]; clear h3
  case' inr.inr => rw [h3]; clear h3
  all_goals
    go_enter Try.func42, Try.ntmps42
    go_wp2_with fail
    go_ret
    exact ⟨rfl, rfl⟩
theorem bl_extractF (s : ByteArray) (a b : Nat) : bl (s.extract a b) = ((bl s).take b).drop a := by
  unfold bl
  rw [ByteArray.data_extract, Array.toList_extract, List.extract_eq_take_drop]
  rw [List.drop_take]
theorem bl_tailF (s : ByteArray) (a : Nat) : bl (s.extract a s.size) = (bl s).drop a := by
  rw [bl_extractF, List.take_of_length_le (by rw [bl_length]; exact Nat.le_refl _)]
theorem bareB_at {s : ByteArray} {k : Nat} (h : (bl s).dropWhile (· == 48) = (bl s).drop k) : bareB s = s.extract k s.size := by
  have e : bl (s.extract k s.size) = (bl s).drop k := bl_tailF s k
  rw [bl_is (s.extract k s.size), e, ← h]
  rfl
theorem bl_cons (s : ByteArray) (k : Nat) (hk : k < s.size) : (bl s).drop k = s[k] :: (bl s).drop (k + 1) := by
  rw [List.drop_eq_getElem_cons (by rw [bl_length]; exact hk)]
  rfl
set_option maxRecDepth 100000 in
set_option maxHeartbeats 1000000 in
theorem fold_bare (s : ByteArray) (_hs : s.size ≤ 1000000000) (w : World) : Calls Try.prog 56 #[.string s] w fun e w' => e = .returned (.string (bareB s)) ∧ Below w.heap.size w w' := by
  obtain ⟨B, hB9⟩ : ∃ B, bareB s = B := ⟨_, rfl⟩
  have HBB := Lib.hid hB9
  rw [hB9]
  clear hB9
  go_enter Try.func56, Try.ntmps56
  go_wp2_with fail
  go_loopw [3, 4] (fun _ _ wr => ∃ k : Nat, It wr w.heap.size s k ∧ w.heap.size < wr.heap.size ∧ Below w.heap.size w wr ∧ k ≤ s.size ∧ (bl s).dropWhile (· == 48) = ((bl s).drop k).dropWhile (· == 48)) (fun _ _ wr => s.size - wr.iterPos w.heap.size)
  case atStart => exact ⟨0, It.new _ _ _, (It.new _ _ _).lt, below_iter (Below.refl _ _) (Nat.le_refl _) _ _, Nat.zero_le _, by rw [List.drop_zero]⟩
  case round =>
    obtain ⟨k, BI, hlt, hB, hks, hdw⟩ := hrel
    have hpos := BI.pos
    have HDW := Lib.hid hdw
    clear hdw
    by_cases hk : k < s.size
    · obtain ⟨r, d, hD, hd1, hr, hcase⟩ := decode_some s k hk
      have hnx : ∀ ty, (Instr.next (.pointer (some ⟨w.heap.size, 0, none⟩)) true ty).run Try.prog wr = .ok (.tuple #[.bool true, .int .i64 k, .int .i32 r]) (wr.iterAt w.heap.size s (k + d)) := by
        intro ty
        rw [Lib.run_next_any_at wr _ s k ty BI hk, hD]
      have BI2 := BI.at_ (k + d)
      have hB2 := Lib.below_iterAt hB (k := w.heap.size) (Nat.le_refl _) s (k + d)
      have hlt2 := BI2.lt
      have HPOS := Lib.hid hpos
      have HCS := Lib.hid hcase
      clear hD BI hB hlt hpos hcase
      generalize wr.iterAt w.heap.size s (k + d) = w2 at *
      have BI3 : It w2.drew w.heap.size s (k + d) := BI2.drewN 1
      have hB3 : Below w.heap.size w w2.drew := below_drewN hB2 1
      by_cases h48 : r = 48
      · subst h48
        have hd : d = 1 ∧ s[k].toNat = 48 := by
          rcases HCS.out with ⟨_, h2, h3⟩ | ⟨_, h2⟩
          · exact ⟨h3, h2.symm⟩
          · omega
        obtain ⟨rfl, hc⟩ := hd
        have HN : Hid ((bl s).dropWhile (· == 48) = ((bl s).drop (k + 1)).dropWhile (· == 48)) := Lib.hid (by
          rw [HDW.out, bl_cons s k hk]
          have : s[k] = 48 := UInt8.toNat_inj.1 hc
          simp [this])
        clear hc
        go_wp2_with fail
        go_roundw
        case rel => exact ⟨k + 1, BI2, hlt2, hB2, hk, HN.out⟩
        case measure => rw [BI2.pos, HPOS.out]; omega
      · have hne : ((r : Int) != 48) = true := by simp; omega
        have HN : Hid (s.extract k s.size = B) := Lib.hid (by
          rw [← HBB.out]
          refine (bareB_at ?_).symm
          rw [HDW.out, bl_cons s k hk]
          have : ¬ s[k] = 48 := fun h => by
            have h9 : s[k].toNat = 48 := by rw [h]; rfl
            rcases HCS.out with ⟨_, h2, _⟩ | ⟨h2, _⟩ <;> omega
          simp [this])
        clear h48
        go_wp2_with fail
        go_ret
        exact ⟨ret_sF HN.out, hB2⟩
    · have hnx : ∀ ty, (Instr.next (.pointer (some ⟨w.heap.size, 0, none⟩)) true ty).run Try.prog wr = .ok (.tuple #[.bool false]) wr := fun ty => Lib.run_next_end_at wr _ s k ty BI (by omega)
      have HN : Hid ((⟨#[]⟩ : ByteArray) = B) := Lib.hid (by
        rw [← HBB.out]
        unfold bareB
        rw [HDW.out, List.drop_eq_nil_of_le (by rw [bl_length]; omega)]
        rfl)
      go_wp2_with fail
      go_ret
      exact ⟨ret_sF HN.out, hB⟩
theorem bare_size (s : ByteArray) : (bareB s).size ≤ s.size := by
  rw [← bl_length, ← bl_length]
  exact (List.dropWhile_sublist _).length_le
set_option maxRecDepth 100000 in
theorem fold_number (a b : ByteArray) (ha : a.size ≤ 1000000000) (hb : b.size ≤ 1000000000) (w : World) : Calls Try.prog 35 #[.string a, .string b] w fun e w' => e = .returned (.int .i64 (numC a b)) ∧ Below w.heap.size w w' := by
  have C1 := Lib.hid (fold_bare a ha w)
  have h1 := bare_size a
  have h2 := bare_size b
  obtain ⟨Q, hQ⟩ : ∃ Q, numC a b = Q := ⟨_, rfl⟩
  rw [hQ]
  unfold numC at hQ
  obtain ⟨x, hx⟩ : ∃ x, bareB a = x := ⟨_, rfl⟩
  obtain ⟨y, hy⟩ : ∃ y, bareB b = y := ⟨_, rfl⟩
  have C2 := fun w1 => fold_bare b hb w1
  rw [hx] at C1 h1 hQ
  rw [hy] at C2 h2 hQ
  have HQ := Lib.hid hQ
  have C2 := Lib.hid C2
  clear hx hy hQ
  go_enter Try.func35, Try.ntmps35
  go_wp2_with fail
  refine C1.out.mono ?_
  rintro e w1 ⟨rfl, b1⟩
  go_wp2_with fail
  refine (C2.out w1).mono ?_
  rintro e w2 ⟨rfl, b2⟩
  have hB := b1.trans (b2.mono b1.size)
  clear b1 b2 C1 C2
  go_wp2_with fail
  refine (cmp_Compare (x.size : Int) y.size w2).mono ?_
  rintro e w3 ⟨rfl, rfl⟩
  go_wp2_with fail
  refine (cmp_CompareS x y w2).mono ?_
  rintro e w3 ⟨rfl, rfl⟩
  obtain ⟨c1, hc1⟩ : ∃ c, cmpI (x.size : Int) y.size = c := ⟨_, rfl⟩
  obtain ⟨c2, hc2⟩ : ∃ c, cmpT x y = c := ⟨_, rfl⟩
  have HQQ := HQ.out
  rw [hc1, hc2] at HQQ
  rw [hc1, hc2]
  have HQ2 := Lib.hid HQQ
  clear hc1 hc2 HQQ
  go_wp2_with fail
  have BO := Blk.new w2 3 #[.int .i64 c1, .int .i64 c2]
  refine (cmp_Or (w2.alloc (.cells #[.int .i64 c1, .int .i64 c2] 3)) w2.heap.size [c1, c2] 2 rfl (fun k x hx => ?_) (by omega)).mono ?_
  · match k, hx with
    | 0, hx => simp at hx; subst hx; exact BO.cell 0
    | 1, hx => simp at hx; subst hx; exact BO.cell 1
  rintro e w3 ⟨rfl, rfl⟩
  have hB3 := hB.alloc hB.size (.cells #[.int .i64 c1, .int .i64 c2] 3)
  rw [HQ2.out]
  go_wp2_with fail
  go_ret
  exact ⟨rfl, hB3⟩
theorem pad_more (k : Nat) (s : ByteArray) : (⟨#[48]⟩ : ByteArray) ++ padB k s = padB (k + 1) s := by
  apply text_ext
  rw [Go.ByteArray.toList_eq, Go.ByteArray.toList_eq, ByteArray.data_append, Array.toList_append]
  show [48] ++ (List.replicate k 48 ++ bl s) = List.replicate (k + 1) 48 ++ bl s
  rw [List.replicate_succ]
  rfl
set_option maxRecDepth 100000 in
set_option maxHeartbeats 1000000 in
theorem ref39_number (a b : ByteArray) (ha : a.size ≤ 1000000000) (hb : b.size ≤ 1000000000) (w : World) : Calls Try.prog 60 #[.string a, .string b] w fun e w' => e = .returned (.int .i64 (numR a b)) ∧ Below w.heap.size w w' := by
  obtain ⟨Q, hQ⟩ : ∃ Q, numR a b = Q := ⟨_, rfl⟩
  have HQ := Lib.hid hQ
  rw [hQ]
  clear hQ
  go_enter Try.func60, Try.ntmps60
  go_wp2_with fail
  go_loopw [0] (fun v0 wr => ∃ k : Nat, v0 = .string (padB k a) ∧ (0 < k → k + a.size ≤ b.size) ∧ Below w.heap.size w wr) (fun v0 _ => match v0 with | .string x => b.size - x.size | _ => 0)
  case atStart => exact ⟨0, by rw [padB_zero], fun h => by omega, Below.refl _ _⟩
  case round =>
    obtain ⟨k, rfl, hk, hB⟩ := hrel
    have hz := size_padB k a
    obtain ⟨x, hx⟩ : ∃ x, padB k a = x := ⟨_, rfl⟩
    have HX := Lib.hid hx
    rw [hx] at hz ⊢
    clear hx
    by_cases hlt : x.size < b.size
    · have hsz : ((⟨#[48]⟩ : ByteArray) ++ x).size = x.size + 1 := by rw [ByteArray.size_append]; show 1 + x.size = _; omega
      have HN : Hid ((⟨#[48]⟩ : ByteArray) ++ x = padB (k + 1) a) := Lib.hid (by rw [← HX.out]; exact pad_more k a)
      go_wp2_with fail
      go_roundw
      case rel => exact ⟨k + 1, by rw [HN.out], fun _ => by omega, hB⟩
      case measure => simp only [hsz]; omega
    · have HK : Hid (k = b.size - a.size) := Lib.hid (by
        rcases Nat.eq_zero_or_pos k with h | h
        · omega
        · have := hk h; omega)
      have hxb : b.size ≤ x.size := by omega
      have hxm : x.size ≤ 1000000000 := by
        rcases Nat.eq_zero_or_pos k with h | h
        · omega
        · have := hk h; omega
      have HXZ : Hid (x.size - b.size = a.size - b.size) := Lib.hid (by have := HK.out; omega)
      clear hz hk
      go_wp2_with fail
      go_loopw [1] (fun v1 wr => ∃ j : Nat, v1 = .string (padB j b) ∧ (0 < j → j + b.size ≤ x.size) ∧ Below w.heap.size w wr) (fun v1 _ => match v1 with | .string y => x.size - y.size | _ => 0)
      case atStart => exact ⟨0, by rw [padB_zero], fun h => by omega, hB⟩
      case round =>
        clear hB
        obtain ⟨j, rfl, hj, hB⟩ := hrel
        have hz := size_padB j b
        obtain ⟨y, hy⟩ : ∃ y, padB j b = y := ⟨_, rfl⟩
        have HY := Lib.hid hy
        rw [hy] at hz ⊢
        clear hy
        by_cases hlt2 : y.size < x.size
        · have hsz : ((⟨#[48]⟩ : ByteArray) ++ y).size = y.size + 1 := by rw [ByteArray.size_append]; show 1 + y.size = _; omega
          have HN : Hid ((⟨#[48]⟩ : ByteArray) ++ y = padB (j + 1) b) := Lib.hid (by rw [← HY.out]; exact pad_more j b)
          go_wp2_with fail
          go_roundw
          case rel => exact ⟨j + 1, by rw [HN.out], fun _ => by omega, hB⟩
          case measure => simp only [hsz]; omega
        · have HJ : Hid (j = a.size - b.size) := Lib.hid (by
            have := HXZ.out
            rcases Nat.eq_zero_or_pos j with h | h
            · omega
            · have := hj h; omega)
          have HF : Hid (cmpT x y = Q) := Lib.hid (by
            rw [← HX.out, ← HY.out, HK.out, HJ.out]
            exact HQ.out)
          clear hz hj
          go_wp2_with fail
          refine (ref39_text x y _).mono ?_
          rintro e w3 ⟨rfl, rfl⟩
          rw [HF.out]
          go_wp2_with fail
          go_ret
          exact ⟨rfl, hB⟩
end Go.Proofs.Ytfkooohnaodjmaa
