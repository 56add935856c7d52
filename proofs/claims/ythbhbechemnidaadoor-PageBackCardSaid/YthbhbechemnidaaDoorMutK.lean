/- Contract of mut.Right: which mutations may be. Contract of the reference's Right: which mutations may be. -/
import Derived.Test.YthbhbechemnidaaDoorMutS
import Derived.Test.YthbhbechemnidaaDoorMutI
import Derived.Test.YthbhbechemnidaaDoorRnL
namespace Go.Proofs.YthbhbechemnidaaDoor
open Go.RowKit Go.Sort

theorem text_gt {a b : ByteArray} (h : Op.bytesLess a.toList b.toList = true) : Op.bytesLess b.toList a.toList = false ∧ (b.toList == a.toList) = false := by
  rw [bytesLess_eq] at h ⊢
  have h := of_decide_eq_true h
  refine ⟨decide_eq_false (fun h' => List.lt_asymm h h'), ?_⟩
  rw [beq_eq_false_iff_ne]
  intro e
  rw [e] at h
  exact List.lt_irrefl _ h
theorem text_le {a b : ByteArray} (h : Op.bytesLess a.toList b.toList = false) : (Op.bytesLess b.toList a.toList = true ∧ (b.toList == a.toList) = false) ∨ (Op.bytesLess b.toList a.toList = false ∧ (b.toList == a.toList) = true) := by
  rcases cmpT_cases b a with ⟨h1, _⟩ | ⟨h1, h2, _⟩ | ⟨h1, h2, _⟩
  · exact .inl ⟨h1, (text_gt h1).2 |> fun h => by rw [beq_eq_false_iff_ne] at h ⊢; exact fun e => h e.symm⟩
  · exfalso
    rw [bytesLess_eq] at h h1
    have h := of_decide_eq_false h
    have h1 := of_decide_eq_false h1
    rw [beq_eq_false_iff_ne] at h2
    exact h2 (List.le_antisymm (List.not_lt.1 h) (List.not_lt.1 h1))
  · exact .inr ⟨h1, h2⟩
theorem no_text (s : ByteArray) (h : s.size = 0) : (s.toList = []) = True ∧ (s.toList == []) = true ∧ (s.toList != []) = false ∧ s.toList.isEmpty = true := by
  have e : s.toList = [] := List.eq_nil_of_length_eq_zero (by rw [ByteArray.toList_eq, Array.length_toList]; exact h)
  rw [e]
  simp
theorem a_text (s : ByteArray) (h : ¬ s.size = 0) : (s.toList = []) = False ∧ (s.toList == []) = false ∧ (s.toList != []) = true ∧ s.toList.isEmpty = false := by
  have e : ¬ s.toList = [] := by
    intro e
    have h9 : s.toList.length = s.size := by rw [ByteArray.toList_eq, Array.length_toList]; rfl
    rw [e] at h9
    exact h h9.symm
  refine ⟨eq_false e, ?_, ?_, ?_⟩
  all_goals
    cases hs : s.toList
    · exact absurd hs e
    · rfl

set_option maxRecDepth 100000 in
set_option maxHeartbeats 4000000 in
theorem mut_Right (m : Mut) (A : Option Addr) (n c : Nat) (w : World) (hT : Tabs w) (hr : Reads w w.heap.size 3 A n (m.ov.flatMap sc)) (hn : n ≤ 1000000000) (hkey : m.key.size ≤ maxLen) (hen : m.en.size ≤ maxLen) (hval : m.val.size ≤ maxLen) :
    Calls Tryd.prog 33 #[.agg (mutC m (.slice A n c))] w fun e w' => e = .returned (.bool (mrtB m)) ∧ Below w.heap.size w w' := by
  have hll := stamps_n hr
  obtain ⟨Q, hQ⟩ : ∃ Q, mrtB m = Q := ⟨_, rfl⟩
  have HQ := Lib.hid hQ
  rw [hQ]
  clear hQ
  unfold mutC
  have BK := Blk.new w 35 #[.int .i64 m.tab, .int .i64 m.kind, .string m.key, .string m.en, .string m.val, .int .i64 m.exp, .int .i64 m.at_.1, .int .i64 m.at_.2.1, .int .i64 m.at_.2.2, .slice A n c]
  have hB : Below w.heap.size w (w.alloc (.cells #[.int .i64 m.tab, .int .i64 m.kind, .string m.key, .string m.en, .string m.val, .int .i64 m.exp, .int .i64 m.at_.1, .int .i64 m.at_.2.1, .int .i64 m.at_.2.2, .slice A n c] 35)) := (Below.refl _ _).alloc (Nat.le_refl _) _
  have HR := Lib.hid hr
  have HLL := Lib.hid hll
  have HT := Lib.hid hT
  have HS := Lib.hid (And.intro hkey (And.intro hen hval))
  clear hr hll hT hkey hen hval
  obtain ⟨r1, h1⟩ : ∃ r, right3 m.at_ = r := ⟨_, rfl⟩
  obtain ⟨r2, h2⟩ : ∃ r, keyB m.key = r := ⟨_, rfl⟩
  obtain ⟨r3, h3⟩ : ∃ r, overB m.ov m.at_ = r := ⟨_, rfl⟩
  obtain ⟨r4, h4⟩ : ∃ r, valB m.val = r := ⟨_, rfl⟩
  obtain ⟨r5, h5⟩ : ∃ r, keyB m.en = r := ⟨_, rfl⟩
  have hc1 := fun w => stamp_Right m.at_.1 m.at_.2.1 m.at_.2.2 w
  rw [show rightB m.at_.1 m.at_.2.1 m.at_.2.2 = r1 from h1] at hc1
  have C2 : Hid (∀ w, Tabs w → Calls Tryd.prog 79 #[.string m.key] w fun e w' => e = .returned (.bool r2) ∧ Below w.heap.size w w') := Lib.hid (fun w t => h2 ▸ runes_Key m.key HS.out.1 w t)
  have C3 : Hid (∀ w', Below w.heap.size w w' → Calls Tryd.prog 80 #[.slice A n c, .agg #[.int .i64 m.at_.1, .int .i64 m.at_.2.1, .int .i64 m.at_.2.2]] w' fun e w'' => e = .returned (.bool r3) ∧ Below w'.heap.size w' w'') := Lib.hid (fun w' b => h3 ▸ mut_over m.ov m.at_ A n c w' ((HR.out.below b).more b.size) hn)
  have C4 : Hid (∀ w, Tabs w → Calls Tryd.prog 81 #[.string m.val] w fun e w' => e = .returned (.bool r4) ∧ Below w.heap.size w w') := Lib.hid (fun w t => h4 ▸ runes_Val m.val HS.out.2.2 w t)
  have C5 : Hid (∀ w, Tabs w → Calls Tryd.prog 79 #[.string m.en] w fun e w' => e = .returned (.bool r5) ∧ Below w.heap.size w w') := Lib.hid (fun w t => h5 ▸ runes_Key m.en HS.out.2.1 w t)
  have C1 := Lib.hid hc1
  have HRs := Lib.hid (And.intro h1 (And.intro h2 (And.intro h3 (And.intro h4 h5))))
  clear h1 h2 h3 h4 h5 hc1
  go_enter Tryd.func33, Tryd.ntmps33
  go_upto_region 1 with fail
  generalize w.alloc (.cells #[.int .i64 m.tab, .int .i64 m.kind, .string m.key, .string m.en, .string m.val, .int .i64 m.exp, .int .i64 m.at_.1, .int .i64 m.at_.2.1, .int .i64 m.at_.2.2, .slice A n c] 35) = W at *
  obtain ⟨q1, hq1⟩ : ∃ q, (!(r1 && (r2 && r3))) = q := ⟨_, rfl⟩
  have hw1 : (r1 = false ∧ q1 = true) ∨ (r1 = true ∧ r2 = false ∧ q1 = true) ∨ (r1 = true ∧ r2 = true ∧ r3 = false ∧ q1 = true) ∨ (r1 = true ∧ r2 = true ∧ r3 = true ∧ q1 = false) := by
    subst hq1
    cases r1 <;> cases r2 <;> cases r3 <;> simp
  have HW1 := Lib.hid hq1
  clear hq1
  go_cut [3] from 3 to 115 (fun s wx => s = .bool q1 ∧ Below w.heap.size w wx ∧ Blk wx w.heap.size 35 #[.int .i64 m.tab, .int .i64 m.kind, .string m.key, .string m.en, .string m.val, .int .i64 m.exp, .int .i64 m.at_.1, .int .i64 m.at_.2.1, .int .i64 m.at_.2.2, .slice A n c])
  case first =>
    have cc := BK.cell
    rcases hw1 with ⟨rfl, rfl⟩ | ⟨rfl, rfl, rfl⟩ | ⟨rfl, rfl, rfl, rfl⟩ | ⟨rfl, rfl, rfl, rfl⟩
    all_goals
      try subst_vars
      go_wp2_with (first
        | (go_at_call 78; refine (C1.out _).mono ?_; rintro e w1 ⟨rfl, b1⟩; replace hB := hB.trans (b1.mono hB.size); replace BK := BK.below b1 BK.lt; have cc := BK.cell; clear b1)
        | (go_at_call 80; refine (C3.out _ hB).mono ?_; rintro e w1 ⟨rfl, b1⟩; replace hB := hB.trans (b1.mono hB.size); replace BK := BK.below b1 BK.lt; have cc := BK.cell; clear b1)
        | (go_at_call 81; refine (C4.out _ (HT.out.in_ (Nat.le_refl _) hB)).mono ?_; rintro e w1 ⟨rfl, b1⟩; replace hB := hB.trans (b1.mono hB.size); replace BK := BK.below b1 BK.lt; have cc := BK.cell; clear b1)
        | (go_at_call 79; refine (C2.out _ (HT.out.in_ (Nat.le_refl _) hB)).mono ?_; rintro e w1 ⟨rfl, b1⟩; replace hB := hB.trans (b1.mono hB.size); replace BK := BK.below b1 BK.lt; have cc := BK.cell; clear b1))
      go_meet
      case rel => exact ⟨by first | rfl | (simp; done), hB, BK⟩
  case rest =>
  clear hw1 BK hB
  obtain ⟨rfl, hB, BK⟩ := hcut
  have cc := BK.cell
  cases q1
  case true =>
    have HF : Hid (Q = false) := Lib.hid (by
      rw [← HQ.out]
      refine mrtB_no (fun h => ?_)
      unfold MutRt at h
      obtain ⟨g1, g2, g3, g4, g5, g6, g7, g8, g9, g10, g11⟩ := h
      have e := HW1.out
      rw [← HRs.out.1, ← HRs.out.2.1, ← HRs.out.2.2.1, g1, g2, overB_yes g3] at e
      cases e
  )
    go_wp2_with fail
    go_ret
    exact ⟨ret_bb HF.out.symm, hB⟩
  have HK1 : Hid (right3 m.at_ = true ∧ keyB m.key = true ∧ overB m.ov m.at_ = true) := Lib.hid (by
    have e := HW1.out
    rw [HRs.out.1, HRs.out.2.1, HRs.out.2.2.1]
    cases r1 <;> cases r2 <;> cases r3 <;> simp at e ⊢)
  go_upto_region 3 with fail
  obtain ⟨q3, hq3⟩ : ∃ q, decide (m.exp < 0 ∨ 1099511627776 < m.exp ∨ (0 < m.exp ∧ (m.kind ≠ 1 ∨ m.tab ≠ 1))) = q := ⟨_, rfl⟩
  have HW3 := Lib.hid hq3
  have hw3 : (decide (m.exp < 0) = true ∧ q3 = true) ∨ (decide (m.exp < 0) = false ∧ decide (1099511627776 < m.exp) = true ∧ q3 = true) ∨ (decide (m.exp < 0) = false ∧ decide (1099511627776 < m.exp) = false ∧ decide (0 < m.exp) = true ∧ (m.kind != 1) = true ∧ q3 = true) ∨
      (decide (m.exp < 0) = false ∧ decide (1099511627776 < m.exp) = false ∧ decide (0 < m.exp) = true ∧ (m.kind != 1) = false ∧ (m.tab != 1) = true ∧ q3 = true) ∨ (decide (m.exp < 0) = false ∧ decide (1099511627776 < m.exp) = false ∧ decide (0 < m.exp) = true ∧ (m.kind != 1) = false ∧ (m.tab != 1) = false ∧ q3 = false) ∨
      (decide (m.exp < 0) = false ∧ decide (1099511627776 < m.exp) = false ∧ decide (0 < m.exp) = false ∧ q3 = false) := by
    subst hq3
    simp only [decide_eq_true_eq, decide_eq_false_iff_not, bne_iff_ne, bne_eq_false_iff_eq, ne_eq]
    omega
  clear hq3
  go_cut [22] from 3 to 115 (fun s wx => s = .bool q3 ∧ Below w.heap.size w wx ∧ Blk wx w.heap.size 35 #[.int .i64 m.tab, .int .i64 m.kind, .string m.key, .string m.en, .string m.val, .int .i64 m.exp, .int .i64 m.at_.1, .int .i64 m.at_.2.1, .int .i64 m.at_.2.2, .slice A n c])
  case first =>
    have cc := BK.cell
    rcases hw3 with ⟨d1, rfl⟩ | ⟨d1, d2, rfl⟩ | ⟨d1, d2, d3, d4, rfl⟩ | ⟨d1, d2, d3, d4, d5, rfl⟩ | ⟨d1, d2, d3, d4, d5, rfl⟩ | ⟨d1, d2, d3, rfl⟩
    all_goals
      try subst_vars
      go_wp2_with (first
        | (go_at_call 78; refine (C1.out _).mono ?_; rintro e w1 ⟨rfl, b1⟩; replace hB := hB.trans (b1.mono hB.size); replace BK := BK.below b1 BK.lt; have cc := BK.cell; clear b1)
        | (go_at_call 80; refine (C3.out _ hB).mono ?_; rintro e w1 ⟨rfl, b1⟩; replace hB := hB.trans (b1.mono hB.size); replace BK := BK.below b1 BK.lt; have cc := BK.cell; clear b1)
        | (go_at_call 81; refine (C4.out _ (HT.out.in_ (Nat.le_refl _) hB)).mono ?_; rintro e w1 ⟨rfl, b1⟩; replace hB := hB.trans (b1.mono hB.size); replace BK := BK.below b1 BK.lt; have cc := BK.cell; clear b1)
        | (go_at_call 79; refine (C2.out _ (HT.out.in_ (Nat.le_refl _) hB)).mono ?_; rintro e w1 ⟨rfl, b1⟩; replace hB := hB.trans (b1.mono hB.size); replace BK := BK.below b1 BK.lt; have cc := BK.cell; clear b1))
      go_meet
      case rel => exact ⟨by first | rfl | (simp; done), hB, BK⟩
  case rest =>
  clear hw3 BK hB
  obtain ⟨rfl, hB, BK⟩ := hcut
  have cc := BK.cell
  cases q3
  case true =>
    have HF : Hid (Q = false) := Lib.hid (by
      rw [← HQ.out]
      refine mrtB_no (fun h => ?_)
      unfold MutRt at h
      obtain ⟨g1, g2, g3, g4, g5, g6, g7, g8, g9, g10, g11⟩ := h
      have e := of_decide_eq_true HW3.out
      by_cases he : m.exp = 0
      · omega
      · have := g6 he
        omega
  )
    go_wp2_with fail
    go_ret
    exact ⟨ret_bb HF.out.symm, hB⟩
  have HK3 := Lib.hid (of_decide_eq_false HW3.out)
  go_upto_region 5 with fail
  obtain ⟨q5, hq5⟩ : ∃ q, (decide (m.kind ≠ 1 ∧ m.val.size ≠ 0) || !r4) = q := ⟨_, rfl⟩
  have HW5 := Lib.hid hq5
  have hw5 : ((m.kind != 1) = true ∧ ((m.val.toList = []) = False ∧ (m.val.toList == []) = false ∧ (m.val.toList != []) = true ∧ m.val.toList.isEmpty = false) ∧ q5 = true) ∨ ((m.kind != 1) = true ∧ ((m.val.toList = []) = True ∧ (m.val.toList == []) = true ∧ (m.val.toList != []) = false ∧ m.val.toList.isEmpty = true) ∧ q5 = !r4) ∨ ((m.kind != 1) = false ∧ q5 = !r4) := by
    subst hq5
    by_cases hk : m.kind = 1
    · exact .inr (.inr ⟨by simp [hk], by simp [hk]⟩)
    · by_cases hv : m.val.size = 0
      · exact .inr (.inl ⟨by simp [hk], no_text _ hv, by simp [hv]⟩)
      · exact .inl ⟨by simp [hk], a_text _ hv, by simp [hk, hv]⟩
  clear hq5
  go_cut [46] from 3 to 115 (fun s wx => s = .bool q5 ∧ Below w.heap.size w wx ∧ Blk wx w.heap.size 35 #[.int .i64 m.tab, .int .i64 m.kind, .string m.key, .string m.en, .string m.val, .int .i64 m.exp, .int .i64 m.at_.1, .int .i64 m.at_.2.1, .int .i64 m.at_.2.2, .slice A n c])
  case first =>
    have cc := BK.cell
    rcases hw5 with ⟨d1, ⟨d2, d3, d4, d5⟩, rfl⟩ | ⟨d1, ⟨d2, d3, d4, d5⟩, rfl⟩ | ⟨d1, rfl⟩
    all_goals
      try subst_vars
      go_wp2_with (first
        | (go_at_call 78; refine (C1.out _).mono ?_; rintro e w1 ⟨rfl, b1⟩; replace hB := hB.trans (b1.mono hB.size); replace BK := BK.below b1 BK.lt; have cc := BK.cell; clear b1)
        | (go_at_call 80; refine (C3.out _ hB).mono ?_; rintro e w1 ⟨rfl, b1⟩; replace hB := hB.trans (b1.mono hB.size); replace BK := BK.below b1 BK.lt; have cc := BK.cell; clear b1)
        | (go_at_call 81; refine (C4.out _ (HT.out.in_ (Nat.le_refl _) hB)).mono ?_; rintro e w1 ⟨rfl, b1⟩; replace hB := hB.trans (b1.mono hB.size); replace BK := BK.below b1 BK.lt; have cc := BK.cell; clear b1)
        | (go_at_call 79; refine (C2.out _ (HT.out.in_ (Nat.le_refl _) hB)).mono ?_; rintro e w1 ⟨rfl, b1⟩; replace hB := hB.trans (b1.mono hB.size); replace BK := BK.below b1 BK.lt; have cc := BK.cell; clear b1))
      go_meet
      case rel => exact ⟨by first | rfl | (simp; done), hB, BK⟩
  case rest =>
  clear hw5 BK hB
  obtain ⟨rfl, hB, BK⟩ := hcut
  have cc := BK.cell
  cases q5
  case true =>
    have HF : Hid (Q = false) := Lib.hid (by
      rw [← HQ.out]
      refine mrtB_no (fun h => ?_)
      unfold MutRt at h
      obtain ⟨g1, g2, g3, g4, g5, g6, g7, g8, g9, g10, g11⟩ := h
      have e := HW5.out
      rw [← HRs.out.2.2.2.1, g8] at e
      simp [-ByteArray.size_eq_zero_iff] at e
      have := g7 e.2
      omega
  )
    go_wp2_with fail
    go_ret
    exact ⟨ret_bb HF.out.symm, hB⟩
  have HK5 : Hid ((m.val.size ≠ 0 → m.kind = 1) ∧ valB m.val = true) := Lib.hid (by
    have e := HW5.out
    simp [-ByteArray.size_eq_zero_iff] at e
    rw [HRs.out.2.2.2.1]
    exact ⟨fun h => by have := e.1; by_cases hk : m.kind = 1; exact hk; exact absurd (this hk) h, e.2⟩)
  go_upto_region 7 with fail
  obtain ⟨qL, hqL⟩ : ∃ q, Op.bytesLess m.key.toList m.en.toList = q := ⟨_, rfl⟩
  obtain ⟨q7, hq7⟩ : ∃ q, (decide (m.kind ≠ 3 ∧ m.en.size ≠ 0) || (decide (m.kind = 3) && (!r5 || !qL))) = q := ⟨_, rfl⟩
  have HW7 := Lib.hid hq7
  have HqL := Lib.hid hqL
  have hw7 : ((m.kind != 3) = true ∧ (m.kind == 3) = false ∧ ((m.en.toList = []) = False ∧ (m.en.toList == []) = false ∧ (m.en.toList != []) = true ∧ m.en.toList.isEmpty = false) ∧ q7 = true) ∨ ((m.kind != 3) = true ∧ (m.kind == 3) = false ∧ ((m.en.toList = []) = True ∧ (m.en.toList == []) = true ∧ (m.en.toList != []) = false ∧ m.en.toList.isEmpty = true) ∧ q7 = false) ∨
      ((m.kind != 3) = false ∧ (m.kind == 3) = true ∧ r5 = false ∧ q7 = true) ∨ ((m.kind != 3) = false ∧ (m.kind == 3) = true ∧ r5 = true ∧ (Op.bytesLess m.en.toList m.key.toList = false ∧ (m.en.toList == m.key.toList) = false) ∧ q7 = false) ∨
      ((m.kind != 3) = false ∧ (m.kind == 3) = true ∧ r5 = true ∧ (Op.bytesLess m.en.toList m.key.toList = true ∧ (m.en.toList == m.key.toList) = false) ∧ q7 = true) ∨ ((m.kind != 3) = false ∧ (m.kind == 3) = true ∧ r5 = true ∧ (Op.bytesLess m.en.toList m.key.toList = false ∧ (m.en.toList == m.key.toList) = true) ∧ q7 = true) := by
    subst hq7
    by_cases hk : m.kind = 3
    · cases r5
      · exact .inr (.inr (.inl ⟨by simp [hk], by simp [hk], rfl, by simp [hk]⟩))
      · cases hL : qL
        · rw [hL] at hqL
          rcases text_le hqL with h | h
          · exact .inr (.inr (.inr (.inr (.inl ⟨by simp [hk], by simp [hk], rfl, h, by simp [hk]⟩))))
          · exact .inr (.inr (.inr (.inr (.inr ⟨by simp [hk], by simp [hk], rfl, h, by simp [hk]⟩))))
        · rw [hL] at hqL
          exact .inr (.inr (.inr (.inl ⟨by simp [hk], by simp [hk], rfl, text_gt hqL, by simp [hk]⟩)))
    · by_cases hv : m.en.size = 0
      · exact .inr (.inl ⟨by simp [hk], by simp [hk], no_text _ hv, by simp [hk, hv]⟩)
      · exact .inl ⟨by simp [hk], by simp [hk], a_text _ hv, by simp [hk, hv]⟩
  clear hq7 hqL
  go_cut [61] from 3 to 115 (fun s wx => s = .bool q7 ∧ Below w.heap.size w wx ∧ Blk wx w.heap.size 35 #[.int .i64 m.tab, .int .i64 m.kind, .string m.key, .string m.en, .string m.val, .int .i64 m.exp, .int .i64 m.at_.1, .int .i64 m.at_.2.1, .int .i64 m.at_.2.2, .slice A n c])
  case first =>
    have cc := BK.cell
    rcases hw7 with ⟨d1, d0, ⟨d2, d3, d4, d5⟩, rfl⟩ | ⟨d1, d0, ⟨d2, d3, d4, d5⟩, rfl⟩ | ⟨d1, d0, rfl, rfl⟩ | ⟨d1, d0, rfl, ⟨d2, d3⟩, rfl⟩ | ⟨d1, d0, rfl, ⟨d2, d3⟩, rfl⟩ | ⟨d1, d0, rfl, ⟨d2, d3⟩, rfl⟩
    all_goals
      try subst_vars
      go_wp2_with (first
        | (go_at_call 78; refine (C1.out _).mono ?_; rintro e w1 ⟨rfl, b1⟩; replace hB := hB.trans (b1.mono hB.size); replace BK := BK.below b1 BK.lt; have cc := BK.cell; clear b1)
        | (go_at_call 80; refine (C3.out _ hB).mono ?_; rintro e w1 ⟨rfl, b1⟩; replace hB := hB.trans (b1.mono hB.size); replace BK := BK.below b1 BK.lt; have cc := BK.cell; clear b1)
        | (go_at_call 81; refine (C4.out _ (HT.out.in_ (Nat.le_refl _) hB)).mono ?_; rintro e w1 ⟨rfl, b1⟩; replace hB := hB.trans (b1.mono hB.size); replace BK := BK.below b1 BK.lt; have cc := BK.cell; clear b1)
        | (go_at_call 79; refine (C5.out _ (HT.out.in_ (Nat.le_refl _) hB)).mono ?_; rintro e w1 ⟨rfl, b1⟩; replace hB := hB.trans (b1.mono hB.size); replace BK := BK.below b1 BK.lt; have cc := BK.cell; clear b1))
      go_meet
      case rel => exact ⟨by first | rfl | (simp; done), hB, BK⟩
  case rest =>
  clear hw7 BK hB
  obtain ⟨rfl, hB, BK⟩ := hcut
  have cc := BK.cell
  cases q7
  case true =>
    have HF : Hid (Q = false) := Lib.hid (by
      rw [← HQ.out]
      refine mrtB_no (fun h => ?_)
      unfold MutRt at h
      obtain ⟨g1, g2, g3, g4, g5, g6, g7, g8, g9, g10, g11⟩ := h
      have e := HW7.out
      by_cases hk : m.kind = 3
      · have := g9 hk
        rw [← HRs.out.2.2.2.2, this.1, ← HqL.out, this.2] at e
        simp [hk] at e
      · have := g10 hk
        simp [hk, this] at e
  )
    go_wp2_with fail
    go_ret
    exact ⟨ret_bb HF.out.symm, hB⟩
  have HK7 : Hid ((m.kind = 3 → keyB m.en = true ∧ Op.bytesLess m.key.toList m.en.toList = true) ∧ (m.kind ≠ 3 → m.en.size = 0)) := Lib.hid (by
    have e := HW7.out
    rw [HRs.out.2.2.2.2, HqL.out]
    by_cases hk : m.kind = 3
    · simp [hk] at e
      exact ⟨fun _ => e, fun h => absurd hk h⟩
    · simp [hk, -ByteArray.size_eq_zero_iff] at e
      exact ⟨fun h => absurd h hk, fun _ => e⟩)
  have HV : Hid (Q = decide ((m.tab = 1 ∧ n = 0 ∧ 1 ≤ m.kind ∧ m.kind ≤ 3) ∨ (m.tab = 2 ∧ 1 ≤ m.kind ∧ m.kind ≤ 2))) := Lib.hid (by
    have hl := HLL.out
    rw [← HQ.out]
    have h3 := HK3.out
    by_cases hx : (m.tab = 1 ∧ n = 0 ∧ 1 ≤ m.kind ∧ m.kind ≤ 3) ∨ (m.tab = 2 ∧ 1 ≤ m.kind ∧ m.kind ≤ 2)
    · rw [decide_eq_true hx]
      refine mrtB_yes ⟨HK1.out.1, HK1.out.2.1, over_of HK1.out.2.2, by omega, by omega, fun h => by omega, HK5.out.1, HK5.out.2, HK7.out.1, HK7.out.2, by rw [hl]; exact hx⟩
    · rw [decide_eq_false hx]
      refine mrtB_no (fun h => hx ?_)
      unfold MutRt at h
      have h9 := h.2.2.2.2.2.2.2.2.2.2
      rw [hl] at h9
      exact h9)
  by_cases ht1 : m.tab = 1
  case pos =>
    have dt : (m.tab == 1) = true := by simp [ht1]
    have hcase : ((n : Int) == 0) = false ∧ Q = false ∨ ((n : Int) == 0) = true ∧ decide (1 ≤ m.kind) = false ∧ Q = false ∨ ((n : Int) == 0) = true ∧ decide (1 ≤ m.kind) = true ∧ Q = decide (m.kind ≤ 3) := by
      rw [HV.out]
      simp only [beq_iff_eq, beq_eq_false_iff_ne, decide_eq_true_eq, decide_eq_false_iff_not, decide_eq_decide]
      omega
    clear ht1
    rcases hcase with ⟨d1, HE⟩ | ⟨d1, d2, HE⟩ | ⟨d1, d2, HE⟩
    all_goals
      have HE := Lib.hid HE
      go_wp2_with fail
      go_ret
      exact ⟨by rw [HE.out]; rfl, hB⟩
  have dt : (m.tab == 1) = false := by simp [ht1]
  by_cases ht2 : m.tab = 2
  case pos =>
    have dt2 : (m.tab == 2) = true := by simp [ht2]
    have hcase : (m.kind == 1) = true ∧ Q = true ∨ (m.kind == 1) = false ∧ Q = (m.kind == 2) := by
      rw [HV.out]
      by_cases h1 : m.kind = 1
      · exact .inl ⟨by simp [h1], by rw [decide_eq_true_eq]; omega⟩
      · refine .inr ⟨by simp [h1], ?_⟩
        rw [Bool.eq_iff_iff, decide_eq_true_eq, beq_iff_eq]
        omega
    clear ht1 ht2
    rcases hcase with ⟨d1, HE⟩ | ⟨d1, HE⟩
    all_goals
      have HE := Lib.hid HE
      go_wp2_with fail
      go_ret
      exact ⟨by rw [HE.out]; rfl, hB⟩
  have dt2 : (m.tab == 2) = false := by simp [ht2]
  have HE : Hid (Q = false) := Lib.hid (by rw [HV.out, decide_eq_false_iff_not]; omega)
  clear ht1 ht2
  go_wp2_with fail
  go_ret
  exact ⟨by rw [HE.out]; rfl, hB⟩
end Go.Proofs.YthbhbechemnidaaDoor

namespace Go.Proofs.YthbhbechemnidaaDoor
open Go.RowKit Go.Sort

def LastM (m : Mut) (n : Nat) : Prop := m.tab = 1 ∧ 1 ≤ m.kind ∧ m.kind ≤ 3 ∧ n = 0
def CausM (m : Mut) : Prop := m.tab = 2 ∧ 1 ≤ m.kind ∧ m.kind ≤ 2
instance (m : Mut) (n : Nat) : Decidable (LastM m n) := inferInstanceAs (Decidable (m.tab = 1 ∧ 1 ≤ m.kind ∧ m.kind ≤ 3 ∧ n = 0))
instance (m : Mut) : Decidable (CausM m) := inferInstanceAs (Decidable (m.tab = 2 ∧ 1 ≤ m.kind ∧ m.kind ≤ 2))
/-- As the document says it. -/
structure RefRt (m : Mut) (n : Nat) : Prop where
  at_ : right3 m.at_ = true
  ov : OverOk m.ov m.at_
  key : keyB m.key = true
  val : valB m.val = true
  tab : LastM m n ∨ CausM m
  one : ¬ (m.kind ≠ 1 ∧ m.val.size ≠ 0)
  exp : ¬ (m.exp ≠ 0 ∧ (¬ LastM m n ∨ m.kind ≠ 1 ∨ m.exp < 0 ∨ 1099511627776 < m.exp))
  wipe : m.kind = 3 → keyB m.en = true ∧ Op.bytesLess m.key.toList m.en.toList = true
  no : m.kind ≠ 3 → m.en.size = 0
theorem refrt_iff {m : Mut} {n : Nat} (hl : m.ov.length = n) : MutRt m ↔ RefRt m n := by
  unfold MutRt
  constructor
  · rintro ⟨g1, g2, g3, g4, g5, g6, g7, g8, g9, g10, g11⟩
    refine ⟨g1, g3, g2, g8, ?_, fun h => h.1 (g7 h.2), fun h => ?_, g9, g10⟩
    · unfold LastM CausM
      omega
    · have h6 := g6 h.1
      have h2 := h.2
      unfold LastM at h2
      omega
  · rintro ⟨g1, g3, g2, g8, gt, g1', ge, g9, g10⟩
    unfold LastM CausM at gt
    unfold LastM at ge
    refine ⟨g1, g2, g3, by omega, by omega, fun h => by omega, fun h => by omega, g8, g9, g10, by omega⟩

set_option maxRecDepth 100000 in
set_option maxHeartbeats 4000000 in
theorem ref07_Right (m : Mut) (A : Option Addr) (n c : Nat) (w : World) (hT : Tabs w) (hr : Reads w w.heap.size 3 A n (m.ov.flatMap sc)) (hn : n ≤ 1000000000) (hkey : m.key.size ≤ 70368744177664) (hen : m.en.size ≤ 70368744177664) (hval : m.val.size ≤ maxLen) :
    Calls Tryd.prog 13 #[.agg (mutC m (.slice A n c))] w fun e w' => e = .returned (.bool (mrtB m)) ∧ Below w.heap.size w w' := by
  have hll := stamps_n hr
  obtain ⟨Q, hQ⟩ : ∃ Q, mrtB m = Q := ⟨_, rfl⟩
  have HQ := Lib.hid hQ
  rw [hQ]
  clear hQ
  unfold mutC
  have BK := Blk.new w 35 #[.int .i64 m.tab, .int .i64 m.kind, .string m.key, .string m.en, .string m.val, .int .i64 m.exp, .int .i64 m.at_.1, .int .i64 m.at_.2.1, .int .i64 m.at_.2.2, .slice A n c]
  have hB : Below w.heap.size w (w.alloc (.cells #[.int .i64 m.tab, .int .i64 m.kind, .string m.key, .string m.en, .string m.val, .int .i64 m.exp, .int .i64 m.at_.1, .int .i64 m.at_.2.1, .int .i64 m.at_.2.2, .slice A n c] 35)) := (Below.refl _ _).alloc (Nat.le_refl _) _
  have HR := Lib.hid hr
  have HLL := Lib.hid hll
  have HT := Lib.hid hT
  have HS := Lib.hid (And.intro hkey (And.intro hen hval))
  clear hr hll hT hkey hen hval
  obtain ⟨r1, h1⟩ : ∃ r, right3 m.at_ = r := ⟨_, rfl⟩
  obtain ⟨r2, h2⟩ : ∃ r, keyB m.key = r := ⟨_, rfl⟩
  obtain ⟨r3, h3⟩ : ∃ r, overB m.ov m.at_ = r := ⟨_, rfl⟩
  obtain ⟨r4, h4⟩ : ∃ r, valB m.val = r := ⟨_, rfl⟩
  obtain ⟨r5, h5⟩ : ∃ r, keyB m.en = r := ⟨_, rfl⟩
  have hc1 := fun w => ref04_Right m.at_.1 m.at_.2.1 m.at_.2.2 w
  rw [show rightB m.at_.1 m.at_.2.1 m.at_.2.2 = r1 from h1] at hc1
  have C2 : Hid (∀ w, Tabs w → Calls Tryd.prog 58 #[.string m.key] w fun e w' => e = .returned (.bool r2) ∧ Below w.heap.size w w') := Lib.hid (fun w t => h2 ▸ ref01_Key m.key HS.out.1 w t)
  have C3 : Hid (∀ w', Below w.heap.size w w' → Calls Tryd.prog 57 #[.slice A n c, .agg #[.int .i64 m.at_.1, .int .i64 m.at_.2.1, .int .i64 m.at_.2.2]] w' fun e w'' => e = .returned (.bool r3) ∧ Below w'.heap.size w' w'') := Lib.hid (fun w' b => h3 ▸ ref07_overs m.ov m.at_ A n c w' ((HR.out.below b).more b.size) hn)
  have C4 : Hid (∀ w, Tabs w → Calls Tryd.prog 59 #[.string m.val] w fun e w' => e = .returned (.bool r4) ∧ Below w.heap.size w w') := Lib.hid (fun w t => h4 ▸ ref01_Val m.val HS.out.2.2 w t)
  have C5 : Hid (∀ w, Tabs w → Calls Tryd.prog 58 #[.string m.en] w fun e w' => e = .returned (.bool r5) ∧ Below w.heap.size w w') := Lib.hid (fun w t => h5 ▸ ref01_Key m.en HS.out.2.1 w t)
  have C1 := Lib.hid hc1
  have HRs := Lib.hid (And.intro h1 (And.intro h2 (And.intro h3 (And.intro h4 h5))))
  clear h1 h2 h3 h4 h5 hc1
  go_enter Tryd.func13, Tryd.ntmps13
  go_upto_region 1 with fail
  generalize w.alloc (.cells #[.int .i64 m.tab, .int .i64 m.kind, .string m.key, .string m.en, .string m.val, .int .i64 m.exp, .int .i64 m.at_.1, .int .i64 m.at_.2.1, .int .i64 m.at_.2.2, .slice A n c] 35) = W at *
  obtain ⟨q1, hq1⟩ : ∃ q, (!(r1 && (r3 && (r2 && r4)))) = q := ⟨_, rfl⟩
  have hw1 : (r1 = false ∧ q1 = true) ∨ (r1 = true ∧ r3 = false ∧ q1 = true) ∨ (r1 = true ∧ r3 = true ∧ r2 = false ∧ q1 = true) ∨ (r1 = true ∧ r3 = true ∧ r2 = true ∧ q1 = !r4) := by
    subst hq1
    cases r1 <;> cases r2 <;> cases r3 <;> simp
  have HW1 := Lib.hid hq1
  clear hq1
  go_cut [28] from 3 to 114 (fun s wx => s = .bool q1 ∧ Below w.heap.size w wx ∧ Blk wx w.heap.size 35 #[.int .i64 m.tab, .int .i64 m.kind, .string m.key, .string m.en, .string m.val, .int .i64 m.exp, .int .i64 m.at_.1, .int .i64 m.at_.2.1, .int .i64 m.at_.2.2, .slice A n c])
  case first =>
    have cc := BK.cell
    rcases hw1 with ⟨rfl, rfl⟩ | ⟨rfl, rfl, rfl⟩ | ⟨rfl, rfl, rfl, rfl⟩ | ⟨rfl, rfl, rfl, rfl⟩
    all_goals
      try subst_vars
      go_wp2_with (first
        | (go_at_call 56; refine (C1.out _).mono ?_; rintro e w1 ⟨rfl, b1⟩; replace hB := hB.trans (b1.mono hB.size); replace BK := BK.below b1 BK.lt; have cc := BK.cell; clear b1)
        | (go_at_call 57; refine (C3.out _ hB).mono ?_; rintro e w1 ⟨rfl, b1⟩; replace hB := hB.trans (b1.mono hB.size); replace BK := BK.below b1 BK.lt; have cc := BK.cell; clear b1)
        | (go_at_call 59; refine (C4.out _ (HT.out.in_ (Nat.le_refl _) hB)).mono ?_; rintro e w1 ⟨rfl, b1⟩; replace hB := hB.trans (b1.mono hB.size); replace BK := BK.below b1 BK.lt; have cc := BK.cell; clear b1)
        | (go_at_call 58; refine (C2.out _ (HT.out.in_ (Nat.le_refl _) hB)).mono ?_; rintro e w1 ⟨rfl, b1⟩; replace hB := hB.trans (b1.mono hB.size); replace BK := BK.below b1 BK.lt; have cc := BK.cell; clear b1))
      go_meet
      case rel => exact ⟨by first | rfl | (simp; done), hB, BK⟩
  case rest =>
  clear hw1 BK hB
  obtain ⟨rfl, hB, BK⟩ := hcut
  have cc := BK.cell
  cases q1
  case true =>
    have HF : Hid (Q = false) := Lib.hid (by
      rw [← HQ.out]
      refine mrtB_no (fun h => ?_)
      have h := (refrt_iff HLL.out).1 h
      have e := HW1.out
      rw [← HRs.out.1, ← HRs.out.2.1, ← HRs.out.2.2.1, ← HRs.out.2.2.2.1, h.at_, h.key, h.val, overB_yes h.ov] at e
      cases e
  )
    go_wp2_with fail
    go_ret
    exact ⟨ret_bb HF.out.symm, hB⟩
  have HK1 : Hid (right3 m.at_ = true ∧ keyB m.key = true ∧ overB m.ov m.at_ = true ∧ valB m.val = true) := Lib.hid (by
    have e := HW1.out
    rw [HRs.out.1, HRs.out.2.1, HRs.out.2.2.1, HRs.out.2.2.2.1]
    cases r1 <;> cases r2 <;> cases r3 <;> cases r4 <;> simp at e ⊢)
  go_upto_region 3 with fail
  obtain ⟨qa, hqa⟩ : ∃ q, decide (LastM m n) = q := ⟨_, rfl⟩
  have HWa := Lib.hid hqa
  have hw3 : ((m.tab == 1) = false ∧ qa = false) ∨ ((m.tab == 1) = true ∧ decide (1 ≤ m.kind) = false ∧ qa = false) ∨ ((m.tab == 1) = true ∧ decide (1 ≤ m.kind) = true ∧ decide (m.kind ≤ 3) = false ∧ qa = false) ∨ ((m.tab == 1) = true ∧ decide (1 ≤ m.kind) = true ∧ decide (m.kind ≤ 3) = true ∧ ((n : Int) == 0) = qa) := by
    subst hqa
    by_cases hP : LastM m n
    · rw [decide_eq_true hP]
      unfold LastM at hP
      refine .inr (.inr (.inr ⟨?_, ?_, ?_, ?_⟩))
      all_goals
        simp only [decide_eq_true_eq, beq_iff_eq]
        omega
    · rw [decide_eq_false hP]
      unfold LastM at hP
      simp only [decide_eq_true_eq, decide_eq_false_iff_not, beq_iff_eq, beq_eq_false_iff_ne, ne_eq, and_true]
      omega
  clear hqa
  go_cut [3] from 3 to 114 (fun s wx => s = .bool qa ∧ Below w.heap.size w wx ∧ Blk wx w.heap.size 35 #[.int .i64 m.tab, .int .i64 m.kind, .string m.key, .string m.en, .string m.val, .int .i64 m.exp, .int .i64 m.at_.1, .int .i64 m.at_.2.1, .int .i64 m.at_.2.2, .slice A n c])
  case first =>
    have cc := BK.cell
    rcases hw3 with ⟨d1, rfl⟩ | ⟨d1, d2, rfl⟩ | ⟨d1, d2, d3, rfl⟩ | ⟨d1, d2, d3, d4⟩
    all_goals
      try subst_vars
      go_wp2_with (first
        | (go_at_call 56; refine (C1.out _).mono ?_; rintro e w1 ⟨rfl, b1⟩; replace hB := hB.trans (b1.mono hB.size); replace BK := BK.below b1 BK.lt; have cc := BK.cell; clear b1)
        | (go_at_call 57; refine (C3.out _ hB).mono ?_; rintro e w1 ⟨rfl, b1⟩; replace hB := hB.trans (b1.mono hB.size); replace BK := BK.below b1 BK.lt; have cc := BK.cell; clear b1)
        | (go_at_call 59; refine (C4.out _ (HT.out.in_ (Nat.le_refl _) hB)).mono ?_; rintro e w1 ⟨rfl, b1⟩; replace hB := hB.trans (b1.mono hB.size); replace BK := BK.below b1 BK.lt; have cc := BK.cell; clear b1)
        | (go_at_call 58; refine (C2.out _ (HT.out.in_ (Nat.le_refl _) hB)).mono ?_; rintro e w1 ⟨rfl, b1⟩; replace hB := hB.trans (b1.mono hB.size); replace BK := BK.below b1 BK.lt; have cc := BK.cell; clear b1))
      go_meet
      case rel => exact ⟨by first | rfl | (simp; done), hB, BK⟩
  case rest =>
  clear hw3 BK hB
  obtain ⟨rfl, hB, BK⟩ := hcut
  have cc := BK.cell
  go_upto_region 4 with fail
  obtain ⟨qb, hqb⟩ : ∃ q, decide (CausM m) = q := ⟨_, rfl⟩
  have HWb := Lib.hid hqb
  have hw4 : ((m.tab == 2) = false ∧ qb = false) ∨ ((m.tab == 2) = true ∧ decide (1 ≤ m.kind) = false ∧ qb = false) ∨ ((m.tab == 2) = true ∧ decide (1 ≤ m.kind) = true ∧ decide (m.kind ≤ 2) = qb) := by
    subst hqb
    by_cases hP : CausM m
    · rw [decide_eq_true hP]
      unfold CausM at hP
      refine .inr (.inr ⟨?_, ?_, ?_⟩)
      all_goals
        simp only [decide_eq_true_eq, beq_iff_eq]
        omega
    · rw [decide_eq_false hP]
      unfold CausM at hP
      simp only [decide_eq_true_eq, decide_eq_false_iff_not, beq_iff_eq, beq_eq_false_iff_ne, ne_eq, and_true]
      omega
  clear hqb
  go_cut [4] from 4 to 114 (fun s wx => s = .bool qb ∧ Below w.heap.size w wx ∧ Blk wx w.heap.size 35 #[.int .i64 m.tab, .int .i64 m.kind, .string m.key, .string m.en, .string m.val, .int .i64 m.exp, .int .i64 m.at_.1, .int .i64 m.at_.2.1, .int .i64 m.at_.2.2, .slice A n c])
  case first =>
    have cc := BK.cell
    rcases hw4 with ⟨d1, rfl⟩ | ⟨d1, d2, rfl⟩ | ⟨d1, d2, d3⟩
    all_goals
      try subst_vars
      go_wp2_with (first
        | (go_at_call 56; refine (C1.out _).mono ?_; rintro e w1 ⟨rfl, b1⟩; replace hB := hB.trans (b1.mono hB.size); replace BK := BK.below b1 BK.lt; have cc := BK.cell; clear b1)
        | (go_at_call 57; refine (C3.out _ hB).mono ?_; rintro e w1 ⟨rfl, b1⟩; replace hB := hB.trans (b1.mono hB.size); replace BK := BK.below b1 BK.lt; have cc := BK.cell; clear b1)
        | (go_at_call 59; refine (C4.out _ (HT.out.in_ (Nat.le_refl _) hB)).mono ?_; rintro e w1 ⟨rfl, b1⟩; replace hB := hB.trans (b1.mono hB.size); replace BK := BK.below b1 BK.lt; have cc := BK.cell; clear b1)
        | (go_at_call 58; refine (C2.out _ (HT.out.in_ (Nat.le_refl _) hB)).mono ?_; rintro e w1 ⟨rfl, b1⟩; replace hB := hB.trans (b1.mono hB.size); replace BK := BK.below b1 BK.lt; have cc := BK.cell; clear b1))
      go_meet
      case rel => exact ⟨by first | rfl | (simp; done), hB, BK⟩
  case rest =>
  clear hw4 BK hB
  obtain ⟨rfl, hB, BK⟩ := hcut
  have cc := BK.cell
  go_upto_region 5 with fail
  obtain ⟨q5, hq5⟩ : ∃ q, ((!qa && !qb) || decide (m.kind ≠ 1 ∧ m.val.size ≠ 0)) = q := ⟨_, rfl⟩
  have HW5 := Lib.hid hq5
  have hw5 : (qa = false ∧ qb = false ∧ q5 = true) ∨ (qa = true ∧ (m.kind != 1) = true ∧ ((m.val.toList = []) = False ∧ (m.val.toList == []) = false ∧ (m.val.toList != []) = true ∧ m.val.toList.isEmpty = false) ∧ q5 = true) ∨ (qa = true ∧ (m.kind != 1) = true ∧ ((m.val.toList = []) = True ∧ (m.val.toList == []) = true ∧ (m.val.toList != []) = false ∧ m.val.toList.isEmpty = true) ∧ q5 = false) ∨ (qa = true ∧ (m.kind != 1) = false ∧ q5 = false) ∨ ((qa = false ∧ qb = true) ∧ (m.kind != 1) = true ∧ ((m.val.toList = []) = False ∧ (m.val.toList == []) = false ∧ (m.val.toList != []) = true ∧ m.val.toList.isEmpty = false) ∧ q5 = true) ∨ ((qa = false ∧ qb = true) ∧ (m.kind != 1) = true ∧ ((m.val.toList = []) = True ∧ (m.val.toList == []) = true ∧ (m.val.toList != []) = false ∧ m.val.toList.isEmpty = true) ∧ q5 = false) ∨ ((qa = false ∧ qb = true) ∧ (m.kind != 1) = false ∧ q5 = false) := by
    subst hq5
    have hc : ((m.kind != 1) = true ∧ ((m.val.toList = []) = False ∧ (m.val.toList == []) = false ∧ (m.val.toList != []) = true ∧ m.val.toList.isEmpty = false) ∧ decide (m.kind ≠ 1 ∧ m.val.size ≠ 0) = true) ∨ ((m.kind != 1) = true ∧ ((m.val.toList = []) = True ∧ (m.val.toList == []) = true ∧ (m.val.toList != []) = false ∧ m.val.toList.isEmpty = true) ∧ decide (m.kind ≠ 1 ∧ m.val.size ≠ 0) = false) ∨ ((m.kind != 1) = false ∧ decide (m.kind ≠ 1 ∧ m.val.size ≠ 0) = false) := by
      by_cases hk : m.kind = 1
      · exact .inr (.inr ⟨by simp [hk], by simp [hk]⟩)
      · by_cases hv : m.val.size = 0
        · exact .inr (.inl ⟨by simp [hk], no_text _ hv, by simp [hv]⟩)
        · exact .inl ⟨by simp [hk], a_text _ hv, by rw [decide_eq_true_eq]; exact ⟨hk, hv⟩⟩
    cases qa
    · cases qb
      · exact .inl ⟨rfl, rfl, rfl⟩
      · rcases hc with ⟨a, b, d⟩ | ⟨a, b, d⟩ | ⟨a, d⟩
        · exact .inr (.inr (.inr (.inr (.inl ⟨⟨rfl, rfl⟩, a, b, by rw [d]; rfl⟩))))
        · exact .inr (.inr (.inr (.inr (.inr (.inl ⟨⟨rfl, rfl⟩, a, b, by rw [d]; rfl⟩)))))
        · exact .inr (.inr (.inr (.inr (.inr (.inr ⟨⟨rfl, rfl⟩, a, by rw [d]; rfl⟩)))))
    · rcases hc with ⟨a, b, d⟩ | ⟨a, b, d⟩ | ⟨a, d⟩
      · exact .inr (.inl ⟨rfl, a, b, by rw [d]; simp⟩)
      · exact .inr (.inr (.inl ⟨rfl, a, b, by rw [d]; simp⟩))
      · exact .inr (.inr (.inr (.inl ⟨rfl, a, by rw [d]; simp⟩)))
  clear hq5
  go_cut [76] from 5 to 114 (fun s wx => s = .bool q5 ∧ Below w.heap.size w wx ∧ Blk wx w.heap.size 35 #[.int .i64 m.tab, .int .i64 m.kind, .string m.key, .string m.en, .string m.val, .int .i64 m.exp, .int .i64 m.at_.1, .int .i64 m.at_.2.1, .int .i64 m.at_.2.2, .slice A n c])
  case first =>
    have cc := BK.cell
    rcases hw5 with ⟨rfl, rfl, rfl⟩ | ⟨rfl, d1, ⟨d2, d3, d4, d5⟩, rfl⟩ | ⟨rfl, d1, ⟨d2, d3, d4, d5⟩, rfl⟩ | ⟨rfl, d1, rfl⟩ | ⟨⟨rfl, rfl⟩, d1, ⟨d2, d3, d4, d5⟩, rfl⟩ | ⟨⟨rfl, rfl⟩, d1, ⟨d2, d3, d4, d5⟩, rfl⟩ | ⟨⟨rfl, rfl⟩, d1, rfl⟩
    all_goals
      try subst_vars
      go_wp2_with (first
        | (go_at_call 56; refine (C1.out _).mono ?_; rintro e w1 ⟨rfl, b1⟩; replace hB := hB.trans (b1.mono hB.size); replace BK := BK.below b1 BK.lt; have cc := BK.cell; clear b1)
        | (go_at_call 57; refine (C3.out _ hB).mono ?_; rintro e w1 ⟨rfl, b1⟩; replace hB := hB.trans (b1.mono hB.size); replace BK := BK.below b1 BK.lt; have cc := BK.cell; clear b1)
        | (go_at_call 59; refine (C4.out _ (HT.out.in_ (Nat.le_refl _) hB)).mono ?_; rintro e w1 ⟨rfl, b1⟩; replace hB := hB.trans (b1.mono hB.size); replace BK := BK.below b1 BK.lt; have cc := BK.cell; clear b1)
        | (go_at_call 58; refine (C2.out _ (HT.out.in_ (Nat.le_refl _) hB)).mono ?_; rintro e w1 ⟨rfl, b1⟩; replace hB := hB.trans (b1.mono hB.size); replace BK := BK.below b1 BK.lt; have cc := BK.cell; clear b1))
      go_meet
      case rel => exact ⟨by first | rfl | (simp; done), hB, BK⟩
  case rest =>
  clear hw5 BK hB
  obtain ⟨rfl, hB, BK⟩ := hcut
  have cc := BK.cell
  cases q5
  case true =>
    have HF : Hid (Q = false) := Lib.hid (by
      rw [← HQ.out]
      refine mrtB_no (fun h => ?_)
      have h := (refrt_iff HLL.out).1 h
      have e := HW5.out
      rw [← HWa.out, ← HWb.out] at e
      simp only [Bool.or_eq_true, Bool.and_eq_true, Bool.not_eq_true', decide_eq_true_eq, decide_eq_false_iff_not] at e
      rcases e with e | e
      · exact h.tab.elim e.1 e.2
      · exact h.one e
  )
    go_wp2_with fail
    go_ret
    exact ⟨ret_bb HF.out.symm, hB⟩
  have HK5 : Hid ((LastM m n ∨ CausM m) ∧ ¬ (m.kind ≠ 1 ∧ m.val.size ≠ 0)) := Lib.hid (by
    have e := HW5.out
    rw [← HWa.out, ← HWb.out] at e
    simp only [Bool.or_eq_false_iff, Bool.and_eq_false_iff, Bool.not_eq_false', decide_eq_true_eq, decide_eq_false_iff_not] at e
    exact e)
  go_upto_region 7 with fail
  obtain ⟨q7, hq7⟩ : ∃ q, decide (m.exp ≠ 0 ∧ (qa = false ∨ m.kind ≠ 1 ∨ m.exp < 0 ∨ 1099511627776 < m.exp)) = q := ⟨_, rfl⟩
  have HW7 := Lib.hid hq7
  have hw7 : ((m.exp != 0) = false ∧ q7 = false) ∨ ((m.exp != 0) = true ∧ qa = false ∧ q7 = true) ∨ ((m.exp != 0) = true ∧ qa = true ∧ (m.kind != 1) = true ∧ q7 = true) ∨ ((m.exp != 0) = true ∧ qa = true ∧ (m.kind != 1) = false ∧ decide (m.exp < 0) = true ∧ q7 = true) ∨ ((m.exp != 0) = true ∧ qa = true ∧ (m.kind != 1) = false ∧ decide (m.exp < 0) = false ∧ decide (1099511627776 < m.exp) = true ∧ q7 = true) ∨ ((m.exp != 0) = true ∧ qa = true ∧ (m.kind != 1) = false ∧ decide (m.exp < 0) = false ∧ decide (1099511627776 < m.exp) = false ∧ q7 = false) := by
    subst hq7
    cases qa
    all_goals
      simp only [decide_eq_true_eq, decide_eq_false_iff_not, bne_iff_ne, bne_eq_false_iff_eq, ne_eq, Bool.false_eq_true, Bool.true_eq_false, false_or, true_or, and_true, true_and, false_and, and_false, or_false]
      omega
  clear hq7
  go_cut [98] from 5 to 114 (fun s wx => s = .bool q7 ∧ Below w.heap.size w wx ∧ Blk wx w.heap.size 35 #[.int .i64 m.tab, .int .i64 m.kind, .string m.key, .string m.en, .string m.val, .int .i64 m.exp, .int .i64 m.at_.1, .int .i64 m.at_.2.1, .int .i64 m.at_.2.2, .slice A n c])
  case first =>
    have cc := BK.cell
    rcases hw7 with ⟨d1, rfl⟩ | ⟨d1, rfl, rfl⟩ | ⟨d1, rfl, d2, rfl⟩ | ⟨d1, rfl, d2, d3, rfl⟩ | ⟨d1, rfl, d2, d3, d4, rfl⟩ | ⟨d1, rfl, d2, d3, d4, rfl⟩
    all_goals
      try subst_vars
      go_wp2_with (first
        | (go_at_call 56; refine (C1.out _).mono ?_; rintro e w1 ⟨rfl, b1⟩; replace hB := hB.trans (b1.mono hB.size); replace BK := BK.below b1 BK.lt; have cc := BK.cell; clear b1)
        | (go_at_call 57; refine (C3.out _ hB).mono ?_; rintro e w1 ⟨rfl, b1⟩; replace hB := hB.trans (b1.mono hB.size); replace BK := BK.below b1 BK.lt; have cc := BK.cell; clear b1)
        | (go_at_call 59; refine (C4.out _ (HT.out.in_ (Nat.le_refl _) hB)).mono ?_; rintro e w1 ⟨rfl, b1⟩; replace hB := hB.trans (b1.mono hB.size); replace BK := BK.below b1 BK.lt; have cc := BK.cell; clear b1)
        | (go_at_call 58; refine (C2.out _ (HT.out.in_ (Nat.le_refl _) hB)).mono ?_; rintro e w1 ⟨rfl, b1⟩; replace hB := hB.trans (b1.mono hB.size); replace BK := BK.below b1 BK.lt; have cc := BK.cell; clear b1))
      go_meet
      case rel => exact ⟨by first | rfl | (simp; done), hB, BK⟩
  case rest =>
  clear hw7 BK hB
  obtain ⟨rfl, hB, BK⟩ := hcut
  have cc := BK.cell
  cases q7
  case true =>
    have HF : Hid (Q = false) := Lib.hid (by
      rw [← HQ.out]
      refine mrtB_no (fun h => ?_)
      have h := (refrt_iff HLL.out).1 h
      have e := of_decide_eq_true HW7.out
      refine h.exp ⟨e.1, e.2.imp (fun e => ?_) id⟩
      have := HWa.out
      rw [e] at this
      exact of_decide_eq_false this
  )
    go_wp2_with fail
    go_ret
    exact ⟨ret_bb HF.out.symm, hB⟩
  have HK7 : Hid (¬ (m.exp ≠ 0 ∧ (¬ LastM m n ∨ m.kind ≠ 1 ∨ m.exp < 0 ∨ 1099511627776 < m.exp))) := Lib.hid (by
    have e := of_decide_eq_false HW7.out
    intro h
    refine e ⟨h.1, h.2.imp (fun e => ?_) id⟩
    rw [← HWa.out]
    exact decide_eq_false e)
  obtain ⟨qL, hqL⟩ : ∃ q, Op.bytesLess m.key.toList m.en.toList = q := ⟨_, rfl⟩
  have HqL := Lib.hid hqL
  by_cases hk : m.kind = 3
  case pos =>
    have HV : Hid (Q = (r5 && qL)) := Lib.hid (by
      rw [← HQ.out]
      cases hb : (r5 && qL) with
      | false =>
        refine mrtB_no (fun h => ?_)
        have h := ((refrt_iff HLL.out).1 h).wipe hk
        rw [HRs.out.2.2.2.2, HqL.out] at h
        rw [h.1, h.2] at hb
        cases hb
      | true =>
        rw [Bool.and_eq_true] at hb
        exact mrtB_yes ((refrt_iff HLL.out).2 ⟨HK1.out.1, over_of HK1.out.2.2.1, HK1.out.2.1, HK1.out.2.2.2, HK5.out.1, HK5.out.2, HK7.out, fun _ => by rw [HRs.out.2.2.2.2, HqL.out]; exact hb, fun h => absurd hk h⟩))
    have dk : (m.kind == 3) = true := by simp [hk]
    clear hk
    have hw9 : (r5 = false ∧ Q = false) ∨ (r5 = true ∧ Q = qL) := by
      rw [HV.out]
      cases r5 <;> simp
    rcases hw9 with ⟨rfl, HE⟩ | ⟨rfl, HE⟩
    all_goals
      have HE := Lib.hid HE
      go_wp2_with (first
        | (go_at_call 56; refine (C1.out _).mono ?_; rintro e w1 ⟨rfl, b1⟩; replace hB := hB.trans (b1.mono hB.size); replace BK := BK.below b1 BK.lt; have cc := BK.cell; clear b1)
        | (go_at_call 57; refine (C3.out _ hB).mono ?_; rintro e w1 ⟨rfl, b1⟩; replace hB := hB.trans (b1.mono hB.size); replace BK := BK.below b1 BK.lt; have cc := BK.cell; clear b1)
        | (go_at_call 59; refine (C4.out _ (HT.out.in_ (Nat.le_refl _) hB)).mono ?_; rintro e w1 ⟨rfl, b1⟩; replace hB := hB.trans (b1.mono hB.size); replace BK := BK.below b1 BK.lt; have cc := BK.cell; clear b1)
        | (go_at_call 58; refine (C5.out _ (HT.out.in_ (Nat.le_refl _) hB)).mono ?_; rintro e w1 ⟨rfl, b1⟩; replace hB := hB.trans (b1.mono hB.size); replace BK := BK.below b1 BK.lt; have cc := BK.cell; clear b1))
      go_ret
      exact ⟨by rw [HE.out]; rfl, hB⟩
  have HV : Hid (Q = decide (m.en.size = 0)) := Lib.hid (by
    rw [← HQ.out]
    by_cases hb : m.en.size = 0
    · rw [decide_eq_true hb]
      exact mrtB_yes ((refrt_iff HLL.out).2 ⟨HK1.out.1, over_of HK1.out.2.2.1, HK1.out.2.1, HK1.out.2.2.2, HK5.out.1, HK5.out.2, HK7.out, fun h => absurd h hk, fun _ => hb⟩)
    · rw [decide_eq_false hb]
      exact mrtB_no (fun h => hb (((refrt_iff HLL.out).1 h).no hk)))
  have dk : (m.kind == 3) = false := by simp [hk]
  clear hk hqL
  by_cases hv : m.en.size = 0
  case pos =>
    obtain ⟨d2, d3, d4, d5⟩ := no_text m.en hv
    have HE : Hid (Q = true) := Lib.hid (by rw [HV.out]; exact decide_eq_true hv)
    clear hv
    go_wp2_with fail
    go_ret
    exact ⟨by rw [HE.out]; rfl, hB⟩
  obtain ⟨d2, d3, d4, d5⟩ := a_text m.en hv
  have HE : Hid (Q = false) := Lib.hid (by rw [HV.out]; exact decide_eq_false hv)
  clear hv
  go_wp2_with fail
  go_ret
  exact ⟨by rw [HE.out]; rfl, hB⟩
end Go.Proofs.YthbhbechemnidaaDoor
