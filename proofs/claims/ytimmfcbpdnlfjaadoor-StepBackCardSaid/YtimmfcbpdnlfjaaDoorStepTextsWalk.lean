/- The walk of the law StepTexts. -/
import Derived.Test.YtimmfcbpdnlfjaaDoorStepLinesWalk
import Derived.Test.YtimmfcbpdnlfjaaDoorStpN
namespace Go.Proofs.YtimmfcbpdnlfjaaDoor
open Go.RowKit Go.Sort
set_option linter.unusedVariables false
set_option linter.unusedSimpArgs false

/-- The texts of the first k steps are short. -/
def Sh100 (L : List Stp) : Prop := ∀ s ∈ L, s.key.size ≤ 100 ∧ s.en.size ≤ 100 ∧ s.val.size ≤ 100
theorem Sh100.shorts {L : List Stp} (h : Sh100 L) : Shorts L := fun s hs => by
  obtain ⟨a, b, c⟩ := h s hs
  exact ⟨by omega, by omega, by omega⟩
theorem Sh100.snoc {L : List Stp} {s : Stp} (h : Sh100 L) (h0 : ¬ 100 < s.key.size) (h1 : ¬ 100 < s.en.size) (h2 : ¬ 100 < s.val.size) : Sh100 (L ++ [s]) := fun u hu => by
  rcases List.mem_append.1 hu with hu | hu
  · exact h u hu
  · rw [List.mem_singleton.1 hu]
    exact ⟨by omega, by omega, by omega⟩

set_option maxRecDepth 100000 in
set_option maxHeartbeats 4000000 in
theorem step_texts_walk (w : World) (hT : Tabs w) (A : Option Addr) (n c : Nat) (L : List Stp) (hnc : n ≤ c) (hcm : c ≤ maxLen) (hA : A = none → c = 0) (hLn : L.length = n) (hW : ∀ s ∈ L, StpW s) (h : Reads w w.heap.size 9 A n (L.flatMap stpL)) (x : ByteArray) (hxm : x.size ≤ maxLen) :
    Calls Tryd.prog 4 #[.slice A n c, .string x] w fun e w' => e = .returned (.bool true) ∧ Below w.heap.size w w' := by
  have HN := Lib.hid hLn
  have H1 := Lib.hid h
  have HT := Lib.hid hT
  clear h hT hLn hW hA
  go_enter Tryd.func4, Tryd.ntmps4
  by_cases g1 : 320 < n
  · have d1 : decide ((n : Int) > 320) = true := by simp; omega
    go_wp2_with fail
    go_ret
    exact ⟨rfl, Below.refl _ _⟩
  have d1 : decide ((n : Int) > 320) = false := by simp; omega
  by_cases g2 : 20100 < x.size
  · have d2 : decide ((x.size : Int) > 20100) = true := by simp; omega
    go_wp2_with fail
    go_ret
    exact ⟨rfl, Below.refl _ _⟩
  have d2 : decide ((x.size : Int) > 20100) = false := by simp; omega
  have hn : n ≤ 320 := by omega
  have hx : x.size ≤ 20100 := by omega
  clear g1 g2 hxm hnc hcm
  go_wp2_with fail
  go_loopw [5] (fun v5 wr => ∃ k : Nat, v5 = .int .i64 k ∧ k ≤ n ∧ wr = w ∧ Hid (Sh100 (L.take k))) (fun v5 _ => n - (RowKit.intOf v5).toNat)
  case atStart => exact ⟨0, rfl, Nat.zero_le _, rfl, Lib.hid (fun s hs => by simp at hs)⟩
  case round =>
    obtain ⟨k, rfl, hk, rfl, HI⟩ := hrel
    by_cases hkn : k < n
    · obtain ⟨b, off, rfl, hbl, hc⟩ := steps_at H1.out (by omega)
      have hkL : k < L.length := by rw [HN.out]; exact hkn
      have q1 := hc k hkL
      have HTK := Lib.hid (List.take_succ_eq_append_getElem hkL)
      obtain ⟨s, hs⟩ : ∃ s, L[k] = s := ⟨_, rfl⟩
      rw [hs] at q1 HTK
      clear hs hc
      have c5 : wr.cell? ⟨b, off + k * 9 + 5, none⟩ = some (.string s.key) := q1 5 (by decide)
      have c6 : wr.cell? ⟨b, off + k * 9 + 6, none⟩ = some (.string s.en) := q1 6 (by decide)
      have c7 : wr.cell? ⟨b, off + k * 9 + 7, none⟩ = some (.string s.val) := q1 7 (by decide)
      have HS1 : Hid True := Lib.hid trivial
      clear q1
      by_cases h0 : 100 < s.key.size
      · have e0 : decide ((s.key.size : Int) > 100) = true := by simp; omega
        clear HI HS1
        go_wp2_with fail
        go_ret
        exact ⟨rfl, Below.refl _ _⟩
      have e0 : decide ((s.key.size : Int) > 100) = false := by simp; omega
      by_cases h1 : 100 < s.en.size
      · have e1 : decide ((s.en.size : Int) > 100) = true := by simp; omega
        clear HI HS1
        go_wp2_with fail
        go_ret
        exact ⟨rfl, Below.refl _ _⟩
      have e1 : decide ((s.en.size : Int) > 100) = false := by simp; omega
      by_cases h2 : 100 < s.val.size
      · have e2 : decide ((s.val.size : Int) > 100) = true := by simp; omega
        clear HI HS1
        go_wp2_with fail
        go_ret
        exact ⟨rfl, Below.refl _ _⟩
      have e2 : decide ((s.val.size : Int) > 100) = false := by simp; omega
      have HS2 : Hid (Sh100 (L.take (k + 1))) := Lib.hid (by rw [HTK.out]; exact HI.out.snoc h0 h1 h2)
      clear h0 h1 h2
      go_wp2_with fail
      go_roundw
      case rel => exact ⟨k + 1, by go_num, hkn, trivial, HS2⟩
      case measure => simp [RowKit.intOf]; omega
    · have hke : k = n := by omega
      subst hke
      have HSS : Hid (Shorts L) := Lib.hid (by
        have := HI.out.shorts
        rwa [List.take_of_length_le (by rw [HN.out]; exact Nat.le_refl _)] at this)
      have C1 := Lib.hid (step_Text A k c L wr H1.out (by omega) HSS.out HT.out)
      have C2 := Lib.hid (fun (w' : World) (b : Below wr.heap.size wr w') => ref40_Text A k c L w' ((H1.out.below b).more b.size) (by omega) HSS.out (HT.out.below b))
      have C3 := Lib.hid (fun (w' : World) (b : Below wr.heap.size wr w') => step_Parse x w' (by omega) (HT.out.below b))
      have C4 := Lib.hid (fun (w' : World) (b : Below wr.heap.size wr w') => ref40_Parse x w' (by omega) (HT.out.below b))
      have C6 := Lib.hid (fun (w' : World) (b : Below wr.heap.size wr w') => law40_alive w' (HT.out.below b))
      clear hkn hk HI

      cases ht : textO L with
      | none =>
        have e1 : textV L = .tuple #[.string ⟨#[]⟩, .int .i64 320] := by unfold textV; rw [ht]
        have e2 : textR L = .tuple #[.string ⟨#[]⟩, .bool false] := by unfold textR; rw [ht]
        rw [e1] at C1
        simp only [e2] at C2
        clear e1 e2 ht
        go_wp2_with fail
        refine C1.out.mono ?_
        clear C1
        rintro e w1 ⟨rfl, b1⟩
        go_wp2_with fail
        refine (C2.out w1 b1).mono ?_
        clear C2
        rintro e w2 ⟨rfl, b2⟩
        replace b2 := b1.trans (b2.mono b1.size)
        clear b1
        go_wp2_with fail
        refine (C3.out w2 b2).mono ?_
        clear C3
        obtain ⟨r, hr⟩ : ∃ r, parseP (bl x) = r := ⟨_, rfl⟩
        obtain ⟨P, at_, ok⟩ := r
        rintro e w3 ⟨v3, rfl, o3, b3⟩
        rw [hr] at o3 ⊢
        obtain ⟨A3, c3, hv3, -, -, r3⟩ := o3.reads
        subst hv3
        replace b3 := b2.trans (b3.mono b2.size)
        have R3 := Lib.hid r3
        dsimp only at *
        have hpl : P.length ≤ 300 := by
          have h1 : P = (parseP (bl x)).1 := by rw [hr]
          rw [h1]
          unfold parseP
          split
          · simp
          · exact parseL_len _ _ _ (by simp)
        clear o3 r3 b2
        go_wp2_with fail
        refine (C4.out w3 b3).mono ?_
        clear C4
        rintro e w4 ⟨v4, rfl, o4, b4⟩
        rw [hr] at o4 ⊢
        obtain ⟨A4, c4, hv4, -, -, r4⟩ := o4.reads
        subst hv4
        dsimp only at *
        have C5 := Lib.hid (ref40_Same A3 A4 P.length c3 c4 P w4 ((R3.out.below b4).more b4.size) r4 (by omega))
        replace b4 := b3.trans (b4.mono b3.size)
        obtain ⟨np, hnp⟩ : ∃ np, P.length = np := ⟨_, rfl⟩
        rw [hnp] at C5 ⊢
        clear o4 r4 R3 b3 hr hnp hpl
        cases ok
        all_goals
          unfold erP erR
          go_wp2_with fail
          refine C5.out.mono ?_
          rintro e w5 ⟨rfl, b5⟩
          have b5' := b4.trans (b5.mono b4.size)
          go_wp2_with fail
          refine (C6.out w5 b5').mono ?_
          rintro e w6 ⟨rfl, b6⟩
          go_wp2_with fail
          go_ret
          exact ⟨rfl, b5'.trans (b6.mono b5'.size)⟩
      | some t =>
        have e1 : textV L = .tuple #[.string ⟨t.toArray⟩, .int .i64 0] := by unfold textV; rw [ht]
        have e2 : textR L = .tuple #[.string ⟨t.toArray⟩, .bool true] := by unfold textR; rw [ht]
        rw [e1] at C1
        simp only [e2] at C2
        clear e1 e2 ht
        go_wp2_with fail
        refine C1.out.mono ?_
        clear C1
        rintro e w1 ⟨rfl, b1⟩
        go_wp2_with fail
        refine (C2.out w1 b1).mono ?_
        clear C2
        rintro e w2 ⟨rfl, b2⟩
        replace b2 := b1.trans (b2.mono b1.size)
        clear b1
        go_wp2_with fail
        refine (C3.out w2 b2).mono ?_
        clear C3
        obtain ⟨r, hr⟩ : ∃ r, parseP (bl x) = r := ⟨_, rfl⟩
        obtain ⟨P, at_, ok⟩ := r
        rintro e w3 ⟨v3, rfl, o3, b3⟩
        rw [hr] at o3 ⊢
        obtain ⟨A3, c3, hv3, -, -, r3⟩ := o3.reads
        subst hv3
        replace b3 := b2.trans (b3.mono b2.size)
        have R3 := Lib.hid r3
        dsimp only at *
        have hpl : P.length ≤ 300 := by
          have h1 : P = (parseP (bl x)).1 := by rw [hr]
          rw [h1]
          unfold parseP
          split
          · simp
          · exact parseL_len _ _ _ (by simp)
        clear o3 r3 b2
        go_wp2_with fail
        refine (C4.out w3 b3).mono ?_
        clear C4
        rintro e w4 ⟨v4, rfl, o4, b4⟩
        rw [hr] at o4 ⊢
        obtain ⟨A4, c4, hv4, -, -, r4⟩ := o4.reads
        subst hv4
        dsimp only at *
        have C5 := Lib.hid (ref40_Same A3 A4 P.length c3 c4 P w4 ((R3.out.below b4).more b4.size) r4 (by omega))
        replace b4 := b3.trans (b4.mono b3.size)
        obtain ⟨np, hnp⟩ : ∃ np, P.length = np := ⟨_, rfl⟩
        rw [hnp] at C5 ⊢
        clear o4 r4 R3 b3 hr hnp hpl
        cases ok
        all_goals
          unfold erP erR
          go_wp2_with fail
          refine C5.out.mono ?_
          rintro e w5 ⟨rfl, b5⟩
          have b5' := b4.trans (b5.mono b4.size)
          go_wp2_with fail
          refine (C6.out w5 b5').mono ?_
          rintro e w6 ⟨rfl, b6⟩
          go_wp2_with fail
          go_ret
          exact ⟨rfl, b5'.trans (b6.mono b5'.size)⟩
end Go.Proofs.YtimmfcbpdnlfjaaDoor
