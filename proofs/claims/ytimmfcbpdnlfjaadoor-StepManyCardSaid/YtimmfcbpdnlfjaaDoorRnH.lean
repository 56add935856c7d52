/- The reference's lines and words. -/
import Derived.Test.YtimmfcbpdnlfjaaDoorRnG
import Derived.Test.YtimmfcbpdnlfjaaDoorRnM
namespace Go.Proofs.YtimmfcbpdnlfjaaDoor
open Go.RowKit Go.Sort Go.Lib

set_option maxRecDepth 100000 in
set_option maxHeartbeats 2000000 in
theorem ref01_Lines (s : ByteArray) (hs : s.size ≤ 1000000000) (w : World) : Calls Tryd.prog 33 #[.string s] w (FreshS w (linesP (bl s))) := by
  obtain ⟨L, hL⟩ : ∃ L, linesP (bl s) = L := ⟨_, rfl⟩
  have HL := Lib.hid hL
  rw [hL]
  clear hL
  go_enter Tryd.func33, Tryd.ntmps33
  go_wp2_with fail
  go_loopw [3, 4, 5] (fun v3 v4 v5 wr => ∃ (k : Nat) (t : ByteArray) (S : List (List UInt8)), v5 = .int .i64 k ∧ v4 = .string t ∧ t.size ≤ k ∧ k ≤ s.size ∧ Below w.heap.size w wr ∧ OwnS wr w.heap.size v3 S ∧ S.length ≤ k ∧ S ++ lin (bl t) ((bl s).drop k) = L) (fun _ _ v5 _ => s.size - (intOf v5).toNat)
  case atStart => exact ⟨0, ⟨#[]⟩, [], rfl, rfl, Nat.zero_le _, Nat.zero_le _, Below.refl _ _, OwnS.nil_ _ _, by simp, by rw [← HL.out]; rfl⟩
  case round =>
    obtain ⟨k, t, S, rfl, rfl, htk, hks, hB, hO, hSk, hI⟩ := hrel
    have HI := Lib.hid hI
    have HO := Lib.hid hO
    clear hI hO
    by_cases hk : k < s.size
    · have HBD := Lib.hid (bl_drop s k hk)
      have h10 := u8_eq_iff s[k] 10 (by omega)
      have H10 := Lib.hid h10
      clear h10
      by_cases hc : s[k] = 10
      · have hq : ((s[k].toNat : Int) == 10) = true := by have := H10.out.1 hc; simp; omega
        have HX : Hid (S ++ [bl t] ++ lin (bl ⟨#[]⟩) ((bl s).drop (k + 1)) = L) := Lib.hid (by
          rw [← HI.out, HBD.out, lin_cons, if_pos hc]
          simp [bl])
        clear hc
        go_wp2_with (at_builtin; go_must (refine append_str wr (bl t) _ (by rw [sv_bl]) _ rfl _ _ rfl w.heap.size _ S rfl HO.out rfl (by omega) hB.size ?_); intro v3 w3 o3 g3 _)
        go_roundw
        case rel => exact ⟨k + 1, ⟨#[]⟩, S ++ [bl t], by go_num, rfl, Nat.zero_le _, by omega, Below.grown hB g3 hB.size (fun q hq => (HO.out.lt q hq).1), o3, by rw [List.length_append, List.length_singleton]; omega, HX.out⟩
        case measure => simp [intOf]; omega
      · have hq : ((s[k].toNat : Int) == 10) = false := by
          simp
          intro h
          exact hc (H10.out.2 (by omega))
        have hone : (s.extract k (k + 1)).size = 1 := by rw [ByteArray.size_extract]; omega
        have hts : (t ++ s.extract k (k + 1)).size = t.size + 1 := by rw [ByteArray.size_append, hone]
        have HTS := Lib.hid hts
        have HX : Hid (S ++ lin (bl (t ++ s.extract k (k + 1))) ((bl s).drop (k + 1)) = L) := Lib.hid (by
          rw [← HI.out, HBD.out, lin_cons, if_neg hc, bl_append, bl_one s k hk])
        have hcut := fun w => cut_mid Tryd.underlying9 s k (k + 1) (by omega) (by omega) w
        rw [show ((k + 1 : Nat) : Int) = (k : Int) + 1 by omega] at hcut
        clear hc hone hts
        go_wp2_with fail
        go_roundw
        case rel => exact ⟨k + 1, t ++ s.extract k (k + 1), S, by go_num, rfl, by rw [HTS.out]; omega, by omega, hB, HO.out, by omega, HX.out⟩
        case measure => simp [intOf]; omega
    · have hkk : k = s.size := by omega
      have hI2 : S ++ lin (bl t) [] = L := by
        rw [← HI.out, List.drop_of_length_le (by rw [bl_length]; omega)]
      have HI2 := Lib.hid hI2
      clear hI2 hkk
      by_cases h0 : 0 < t.size
      · obtain ⟨hn1, hn2, hn3⟩ := str_some t h0
        have HX : Hid (S ++ [bl t] = L) := Lib.hid (by
          rw [← HI2.out, lin_end]
          intro e
          have := congrArg List.length e
          rw [bl_length, List.length_nil] at this
          omega)
        go_wp2_with (at_builtin; go_must (refine append_str wr (bl t) _ (by rw [sv_bl]) _ rfl _ _ rfl w.heap.size _ S rfl HO.out rfl (by omega) hB.size ?_); intro v3 w3 o3 g3 _)
        go_ret
        refine fresh_below ?_ (Below.grown hB g3 hB.size (fun q hq => (HO.out.lt q hq).1))
        rw [← HX.out]
        exact o3
      · have hl := str_empty t (by omega)
        have hl2 : (!t.toList.isEmpty) = false := by rw [hl]; rfl
        have HX : Hid (S = L) := Lib.hid (by
          rw [← HI2.out, show bl t = [] from List.eq_nil_of_length_eq_zero (by rw [bl_length]; omega)]
          simp [lin])
        go_wp2_with fail
        go_ret
        refine fresh_below ?_ hB
        rw [← HX.out]
        exact HO.out

theorem wend_shift (q : Bool) : ∀ (l : List UInt8) (esc : Bool) (i a : Nat), wend q esc (i + a) l = wend q esc i l + a
  | [], esc, i, a => by cases esc <;> rfl
  | c :: r, true, i, a => by
    rw [wend_esc, wend_esc, show i + a + 1 = i + 1 + a by omega, wend_shift q r false (i + 1) a]
  | c :: r, false, i, a => by
    rw [wend_cons, wend_cons, show i + a + 1 = i + 1 + a by omega, wend_shift q r false (i + 1) a, wend_shift q r true (i + 1) a]
    split
    · rfl
    · split
      · rfl
      · split <;> rfl
theorem wend_len (q : Bool) (s : ByteArray) (k : Nat) (h : s.size ≤ k) : wend q false k ((bl s).drop k) = k := by
  rw [List.drop_of_length_le (by rw [bl_length]; exact h)]
  rfl

set_option maxRecDepth 100000 in
set_option maxHeartbeats 4000000 in
theorem ref01_Words (s : ByteArray) (hs : s.size ≤ 1000000000) (w : World) : Calls Tryd.prog 20 #[.string s] w (FreshS w (wordsP (bl s))) := by
  obtain ⟨W, hW⟩ : ∃ W, wordsP (bl s) = W := ⟨_, rfl⟩
  have HW := Lib.hid hW
  rw [hW]
  clear hW
  go_enter Tryd.func20, Tryd.ntmps20
  go_wp2_with fail
  go_loopw [3, 4, 5, 6] (fun v3 v4 _ _ wr => ∃ (k : Nat) (S : List (List UInt8)), v4 = .int .i64 k ∧ k ≤ s.size ∧ Below w.heap.size w wr ∧ OwnS wr w.heap.size v3 S ∧ S.length ≤ k ∧ S ++ wordsP ((bl s).drop k) = W) (fun _ v4 _ _ _ => s.size - (intOf v4).toNat)
  case atStart => exact ⟨0, [], rfl, Nat.zero_le _, Below.refl _ _, OwnS.nil_ _ _, by simp, by rw [← HW.out]; rfl⟩
  case round =>
    obtain ⟨f, S, rfl, hfs, hB, hO, hSk, hI⟩ := hrel
    have HI := Lib.hid hI
    have HO := Lib.hid hO
    clear hI hO
    by_cases hf : f < s.size
    · have HBD := Lib.hid (bl_drop s f hf)
      have h32 := u8_eq_iff s[f] 32 (by omega)
      have h34 := u8_eq_iff s[f] 34 (by omega)
      have H32 := Lib.hid h32
      have H34 := Lib.hid h34
      clear h32 h34
      by_cases hc : s[f] = 32
      · have hq : ((s[f].toNat : Int) == 32) = true := by have := H32.out.1 hc; simp; omega
        have HX : Hid (S ++ wordsP ((bl s).drop (f + 1)) = W) := Lib.hid (by rw [← HI.out, HBD.out, hc, wordsP_blank])
        clear hc
        go_wp2_with fail
        go_roundw
        case rel => exact ⟨f + 1, S, by go_num, by omega, hB, HO.out, by omega, HX.out⟩
        case measure => simp [intOf]; omega
      · have hq : ((s[f].toNat : Int) == 32) = false := by
          simp
          intro h
          exact hc (H32.out.2 (by omega))
        obtain ⟨q, hqq⟩ : ∃ q : Bool, (s[f] == 34) = q := ⟨_, rfl⟩
        have hqi : ((s[f].toNat : Int) == 34) = q := by
          rw [← hqq, Bool.eq_iff_iff]
          simp
          constructor
          · intro h; exact H34.out.2 (by omega)
          · intro h; have := H34.out.1 h; omega
        obtain ⟨E, hE⟩ : ∃ E, wend q false (f + 1) ((bl s).drop (f + 1)) = E := ⟨_, rfl⟩
        have hEP : endP ((bl s).drop f) + f = E := by
          rw [HBD.out, endP, hqq, ← wend_shift, ← hE, Nat.add_comm 1 f]
        have hEle := wend_le q ((bl s).drop (f + 1)) false (f + 1)
        rw [hE, List.length_drop, bl_length] at hEle
        have hEs : E ≤ s.size := by omega
        have hE1 : f + 1 ≤ E := by omega
        have HX : Hid (S ++ [bl (s.extract f E)] ++ wordsP ((bl s).drop E) = W) := Lib.hid (by
          rw [← HI.out]
          have h1 := wordsP_word s[f] ((bl s).drop (f + 1)) hc
          rw [← HBD.out] at h1
          rw [h1, List.drop_drop, show f + endP ((bl s).drop f) = E by omega, bl_extract, List.append_assoc]
          congr 1
          rw [show endP ((bl s).drop f) = E - f by omega, ← List.drop_take]
          rfl)
        have HE0 := Lib.hid hE
        clear hqq hEP hEle hE hc
        go_wp2_with fail
        go_loopw [4] (fun v4 wq => ∃ k : Nat, v4 = .int .i64 k ∧ f < k ∧ k ≤ s.size ∧ wq = wr ∧ wend q false k ((bl s).drop k) = E) (fun v4 _ => s.size - (intOf v4).toNat)
        case atStart => exact ⟨f + 1, by go_num, by omega, by omega, rfl, HE0.out⟩
        case round =>
          obtain ⟨k, rfl, hfk, hks, rfl, hE⟩ := hrel
          have HE := Lib.hid hE
          clear hE
          by_cases hk : k < s.size
          case' pos =>
            have HBK := Lib.hid (bl_drop s k hk)
            have H92 := Lib.hid (u8_eq_iff s[k] 92 (by omega))
            have H34' := Lib.hid (u8_eq_iff s[k] 34 (by omega))
            have H32' := Lib.hid (u8_eq_iff s[k] 32 (by omega))
            cases q
            case' false =>
              by_cases hc : s[k] = 32
              case' pos =>
                have hq32 : ((s[k].toNat : Int) == 32) = true := by have := H32'.out.1 hc; simp; omega
                have hkE : E = k := by rw [← HE.out, HBK.out, wend_cons, if_neg (by simp), if_neg (by simp), if_pos ⟨rfl, hc⟩]
                clear hc HE HBK H92 H34' H32'
                go_upto_region 16 with fail
                subst hkE
              case' neg =>
                have hq32 : ((s[k].toNat : Int) == 32) = false := by
                  simp
                  intro h
                  exact hc (H32'.out.2 (by omega))
                have HX2 : Hid (wend false false (k + 1) ((bl s).drop (k + 1)) = E) := Lib.hid (by rw [← HE.out, HBK.out, wend_cons, if_neg (by simp), if_neg (by simp), if_neg (fun h => hc h.2)])
                clear hc
                go_wp2_with fail
                go_roundw
                case rel => exact ⟨k + 1, by go_num, by omega, by omega, trivial, HX2.out⟩
                case measure => simp [intOf]; omega
            case' true =>
              by_cases h92 : s[k] = 92
              case' pos =>
                have hq92 : ((s[k].toNat : Int) == 92) = true := by have := H92.out.1 h92; simp; omega
                have hq34 : ((s[k].toNat : Int) == 34) = false := by have := H92.out.1 h92; simp; omega
                by_cases hk2 : k + 1 < s.size
                · have hd2 : decide ((k : Int) + 1 < (s.size : Int)) = true := by simp; omega
                  have HX2 : Hid (wend true false (k + 2) ((bl s).drop (k + 2)) = E) := Lib.hid (by rw [← HE.out, HBK.out, wend_cons, if_pos ⟨rfl, h92⟩, bl_drop s (k + 1) hk2, wend_esc])
                  clear h92
                  go_wp2_with fail
                  go_roundw
                  case rel => exact ⟨k + 2, by go_num, by omega, by omega, trivial, HX2.out⟩
                  case measure => simp [intOf]; omega
                · have hd2 : decide ((k : Int) + 1 < (s.size : Int)) = false := by simp; omega
                  have HX2 : Hid (wend true false (k + 1) ((bl s).drop (k + 1)) = E) := Lib.hid (by
                    rw [← HE.out, HBK.out, wend_cons, if_pos ⟨rfl, h92⟩, List.drop_of_length_le (by rw [bl_length]; omega)]
                    rfl)
                  clear h92
                  go_wp2_with fail
                  go_roundw
                  case rel => exact ⟨k + 1, by go_num, by omega, by omega, trivial, HX2.out⟩
                  case measure => simp [intOf]; omega
              case' neg =>
                have hq92 : ((s[k].toNat : Int) == 92) = false := by
                  simp
                  intro h
                  exact h92 (H92.out.2 (by omega))
                by_cases h34 : s[k] = 34
                case' pos =>
                  have hq34 : ((s[k].toNat : Int) == 34) = true := by have := H34'.out.1 h34; simp; omega
                  have hkE : E = k + 1 := by rw [← HE.out, HBK.out, wend_cons, if_neg (fun h => h92 h.2), if_pos ⟨rfl, h34⟩]
                  have HKE := Lib.hid hkE
                  clear h34 h92 hkE
                  go_upto_region 16 with fail
                  rw [show ((k : Int) + 1) = ((E : Nat) : Int) by rw [HKE.out]; omega]
                case' neg =>
                  have hq34 : ((s[k].toNat : Int) == 34) = false := by
                    simp
                    intro h
                    exact h34 (H34'.out.2 (by omega))
                  have HX2 : Hid (wend true false (k + 1) ((bl s).drop (k + 1)) = E) := Lib.hid (by rw [← HE.out, HBK.out, wend_cons, if_neg (fun h => h92 h.2), if_neg (fun h => h34 h.2), if_neg (by simp)])
                  clear h34 h92
                  go_wp2_with fail
                  go_roundw
                  case rel => exact ⟨k + 1, by go_num, by omega, by omega, trivial, HX2.out⟩
                  case measure => simp [intOf]; omega
          case' neg =>
            have hkE : E = k := by rw [← HE.out, wend_len q s k (by omega)]
            go_upto_region 16 with fail
            subst hkE
          all_goals
            have hcut := fun w => cut_mid Tryd.underlying9 s f E (by omega) (by omega) w
            go_wp2_with (at_builtin; go_must (refine append_str wr (bl (s.extract f E)) _ (by rw [sv_bl]) _ rfl _ _ rfl w.heap.size _ S rfl HO.out rfl (by omega) hB.size ?_); intro v3 w3 o3 g3 _)
            go_roundw
            case rel => exact ⟨E, S ++ [bl (s.extract f E)], rfl, by omega, Below.grown hB g3 hB.size (fun q hq => (HO.out.lt q hq).1), o3, by rw [List.length_append, List.length_singleton]; omega, HX.out⟩
            case measure => simp [intOf]; omega
    · have HX : Hid (S = W) := Lib.hid (by
        rw [← HI.out, List.drop_of_length_le (by rw [bl_length]; omega), wordsP_nil, List.append_nil])
      go_wp2_with fail
      go_ret
      refine fresh_below ?_ hB
      rw [← HX.out]
      exact HO.out
end Go.Proofs.YtimmfcbpdnlfjaaDoor
