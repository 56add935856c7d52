/- Walk of FoldTexts. -/
import Derived.Test.YtomefcngaclehaaFolU
import Derived.Test.YtomefcngaclehaaFolD
namespace Go.Proofs.Ytomefcngaclehaa
open Go.RowKit Go.Sort

theorem sameF_def (a b : ByteArray) : sameF a b = ((foldB a).toList == (foldB b).toList) := rfl

set_option maxRecDepth 100000 in
set_option maxHeartbeats 4000000 in
theorem fold_texts_walk (w : World) (a : ByteArray) (wa : a.size ≤ maxLen) (b : ByteArray) (wb : b.size ≤ maxLen) :
    Calls Try.prog 3 #[.string a, .string b] w fun e w' => e = .returned (.bool true) ∧ Below w.heap.size w w' := by
  have ha63 : a.size ≤ 9223372036854775807 := by unfold maxLen at wa; omega
  have hb63 : b.size ≤ 9223372036854775807 := by unfold maxLen at wb; omega
  clear wa wb
  by_cases ha : a.size ≤ 500
  · by_cases hb : b.size ≤ 500
    · have hs := foldB_size a
      obtain ⟨fa, hfa⟩ : ∃ x, foldB a = x := ⟨_, rfl⟩
      obtain ⟨fb, hfb⟩ : ∃ x, foldB b = x := ⟨_, rfl⟩
      have hff : foldB fa = fa := by rw [← hfa]; exact foldB_foldB a
      have F1 : Hid (∀ W, Calls Try.prog 11 #[.string a] W fun e w' => e = .returned (.string fa) ∧ Below W.heap.size W w') := Lib.hid (fun W => by rw [← hfa]; exact fold_Fold a (by omega) W)
      have F2 : Hid (∀ W, Calls Try.prog 12 #[.string a] W fun e w' => e = .returned (.string fa) ∧ Below W.heap.size W w') := Lib.hid (fun W => by rw [← hfa]; exact ref39_Fold a (by omega) W)
      have F3 : Hid (∀ W, Calls Try.prog 12 #[.string b] W fun e w' => e = .returned (.string fb) ∧ Below W.heap.size W w') := Lib.hid (fun W => by rw [← hfb]; exact ref39_Fold b (by omega) W)
      rw [hfa] at hs
      have F4 : Hid (∀ W, Calls Try.prog 11 #[.string fa] W fun e w' => e = .returned (.string fa) ∧ Below W.heap.size W w') := Lib.hid (fun W => by
        have h := fold_Fold fa (by omega) W
        rw [hff] at h
        exact h)
      obtain ⟨q, hq⟩ : ∃ q, (fa.toList == fb.toList) = q := ⟨_, rfl⟩
      have F5 : Hid (∀ W, Calls Try.prog 13 #[.string a, .string b] W fun e w' => e = .returned (.bool q) ∧ Below W.heap.size W w') := Lib.hid (fun W => by
        have h := fold_Same a b (by omega) (by omega) W
        rw [sameF_def, hfa, hfb, hq] at h
        exact h)
      have C1 := Lib.hid (fold_Chunks a (by omega) w)
      have C2 := Lib.hid (fun W => ref39_Chunks a (by omega) W)
      have hcl := chunksB_len a
      obtain ⟨X, hX⟩ : ∃ X, chunksB a = X := ⟨_, rfl⟩
      rw [hX] at C1 C2 hcl
      have hqq : (q == q) = true := by cases q <;> rfl
      clear hfa hfb hff hs hX
      have HQ := Lib.hid hq
      have HQQ := Lib.hid hqq
      clear hq hqq
      obtain ⟨n, hn⟩ : ∃ n, X.length = n := ⟨_, rfl⟩
      go_enter Try.func3, Try.ntmps3
      go_wp2_with fail
      refine C1.out.mono ?_
      rintro e w1 ⟨v1, rfl, o1, b1⟩
      go_wp2_with fail
      refine (C2.out w1).mono ?_
      rintro e w2 ⟨v2, rfl, o2, b2⟩
      replace o1 := o1.below b2
      have hB := b1.trans (b2.mono b1.size)
      obtain ⟨A1, c1, rfl, -, -, hg1⟩ := o1.form
      obtain ⟨A2, c2, rfl, -, -, hg2⟩ := o2.form
      have HO1 := Lib.hid o1
      have HO2 := Lib.hid o2
      have HN := Lib.hid hn
      rw [hn] at hg1 hg2 hcl ⊢
      have hnn : ((n : Int) != (n : Int)) = false := by simp
      clear o1 o2 b1 b2 hn C1 C2
      go_wp2_with fail
      clear hnn
      go_loopw [7] (fun v7 wr => ∃ k : Nat, v7 = .int .i64 k ∧ k ≤ n ∧ Below w2.heap.size w2 wr) (fun v7 _ => n - (intOf v7).toNat)
      case atStart => exact ⟨0, rfl, Nat.zero_le _, Below.refl _ _⟩
      case round =>
        obtain ⟨k, rfl, hk, hBW⟩ := hrel
        by_cases hkn : k < n
        · have hkX : k < X.length := by have := HN.out; omega
          obtain ⟨g1, rfl, hg11, hg12⟩ := hg1 (by omega)
          obtain ⟨g2, rfl, hg21, hg22⟩ := hg2 (by omega)
          obtain ⟨p1, p2⟩ := own_at HO1.out k hkX
          obtain ⟨r1, r2⟩ := own_at HO2.out k hkX
          obtain ⟨⟨t1, u1⟩, hx⟩ : ∃ x, X[k]'hkX = x := ⟨_, rfl⟩
          rw [hx] at p1 p2 r1 r2
          simp only at p1 p2 r1 r2
          have e1 := cell_regrown ((hBW.cell (p := ⟨g1, k * 2, none⟩) hg12).trans p1)
          have e2 := cell_regrown ((hBW.cell (p := ⟨g1, k * 2 + 1, none⟩) hg12).trans p2)
          have e3 := cell_regrown ((hBW.cell (p := ⟨g2, k * 2, none⟩) hg22).trans r1)
          have e4 := cell_regrown ((hBW.cell (p := ⟨g2, k * 2 + 1, none⟩) hg22).trans r2)
          have huu : (u1 != u1) = false := by cases u1 <;> rfl
          clear hx p1 p2 r1 r2
          go_upto_region 9 with fail
          refine wp_region_quiet_below (by kernel_rfl) (by kernel_rfl) ?_
          repeat (go_big_quiet_step (fail))
          refine wpQuiet_nil ?_
          rintro w9 ⟨⟨dq, osq⟩, rfl⟩
          have b9 := below_regrown wr dq osq
          clear e1 e2 e3 e4
          go_wp2_with fail
          go_roundw
          case rel => exact ⟨k + 1, by go_num, hkn, hBW.trans (b9.mono hBW.size)⟩
          case measure => simp [intOf]; omega
        · have hB0 := hB.trans (hBW.mono hB.size)
          clear hg1 hg2
          go_wp2_with fail
          refine (F1.out wr).mono ?_
          rintro e u1 ⟨rfl, b⟩
          replace hB0 := hB0.trans (b.mono hB0.size)
          clear b
          go_wp2_with fail
          refine (F2.out u1).mono ?_
          rintro e u2 ⟨rfl, b⟩
          replace hB0 := hB0.trans (b.mono hB0.size)
          clear b
          go_wp2_with fail
          refine (F5.out u2).mono ?_
          rintro e u3 ⟨rfl, b⟩
          replace hB0 := hB0.trans (b.mono hB0.size)
          clear b
          go_wp2_with fail
          refine (F2.out u3).mono ?_
          rintro e u4 ⟨rfl, b⟩
          replace hB0 := hB0.trans (b.mono hB0.size)
          clear b
          go_wp2_with fail
          refine (F3.out u4).mono ?_
          rintro e u5 ⟨rfl, b⟩
          replace hB0 := hB0.trans (b.mono hB0.size)
          clear b
          have hq := HQ.out
          have hqq := HQQ.out
          go_wp2_with fail
          refine (F1.out u5).mono ?_
          rintro e u6 ⟨rfl, b⟩
          replace hB0 := hB0.trans (b.mono hB0.size)
          clear b
          go_wp2_with fail
          refine (F4.out u6).mono ?_
          rintro e u7 ⟨rfl, b⟩
          replace hB0 := hB0.trans (b.mono hB0.size)
          clear b
          go_wp2_with fail
          refine (F1.out u7).mono ?_
          rintro e u8 ⟨rfl, b⟩
          replace hB0 := hB0.trans (b.mono hB0.size)
          clear b
          go_wp2_with fail
          refine (law39_alive u8).mono ?_
          rintro e u9 ⟨rfl, b⟩
          replace hB0 := hB0.trans (b.mono hB0.size)
          clear b
          go_wp2_with fail
          go_ret
          exact ⟨rfl, hB0⟩
    · have hb2 : b.size > 500 := by omega
      go_enter Try.func3, Try.ntmps3
      go_wp2_with fail
      go_ret
      exact ⟨rfl, Below.refl _ _⟩
  · have ha2 : a.size > 500 := by omega
    go_enter Try.func3, Try.ntmps3
    go_wp2_with fail
    go_ret
    exact ⟨rfl, Below.refl _ _⟩
end Go.Proofs.Ytomefcngaclehaa
