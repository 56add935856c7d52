/- Contract of the reference's Natural. -/
import Derived.Test.YtfkooohnaodjmaaFolE
namespace Go.Proofs.Ytfkooohnaodjmaa
open Go.RowKit Go.Sort

set_option maxRecDepth 100000 in
set_option maxHeartbeats 4000000 in
theorem ref39_Natural (a b : ByteArray) (ha : a.size ≤ 10000000) (hb : b.size ≤ 10000000) (w : World) : Calls Try.prog 15 #[.string a, .string b] w fun e w' => e = .returned (.int .i64 (natC a b)) ∧ Below w.heap.size w w' := by
  have C1 := Lib.hid (ref39_Chunks a (by omega) w)
  have C2 := fun w1 => ref39_Chunks b (by omega) w1
  have hs1 := chunk_size a
  have hs2 := chunk_size b
  have hd1 := chunks_dig a
  have hd2 := chunks_dig b
  have hl1 := chunksB_len a
  have hl2 := chunksB_len b
  obtain ⟨N, hN⟩ : ∃ N, natC a b = N := ⟨_, rfl⟩
  obtain ⟨X, hX⟩ : ∃ X, chunksB a = X := ⟨_, rfl⟩
  obtain ⟨Y, hY⟩ : ∃ Y, chunksB b = Y := ⟨_, rfl⟩
  rw [hX] at C1 hs1 hl1 hd1
  rw [hY] at C2 hs2 hl2 hd2
  have HS1 := Lib.hid hs1
  have HS2 := Lib.hid hs2
  have HD1 := Lib.hid hd1
  have HD2 := Lib.hid hd2
  have C2 := Lib.hid C2
  have HAT := Lib.hid (fun k hk1 hk2 hr => natC_at hX hY k hk1 hk2 hr)
  have HEND := Lib.hid (fun k hk hr => natC_end hX hY k hk hr)
  rw [hN] at HAT HEND ⊢
  clear hX hY hN hs1 hs2 hd1 hd2
  go_enter Try.func15, Try.ntmps15
  go_wp2_with fail
  refine C1.out.mono ?_
  clear C1
  rintro e w1 ⟨v1, rfl, O1, b1⟩
  go_wp2_with fail
  refine (C2.out w1).mono ?_
  clear C2
  rintro e W ⟨v2, rfl, O2, b2⟩
  have O1' := O1.below b2
  have hB := b1.trans (b2.mono b1.size)
  obtain ⟨A1, c1, rfl, -, -, hg1⟩ := O1'.form
  obtain ⟨A2, c2, rfl, -, -, hg2⟩ := O2.form
  have HO1 := Lib.hid O1'
  have HO2 := Lib.hid O2
  obtain ⟨n1, hn1⟩ : ∃ n, X.length = n := ⟨_, rfl⟩
  obtain ⟨n2, hn2⟩ : ∃ n, Y.length = n := ⟨_, rfl⟩
  have HN1 := Lib.hid hn1
  have HN2 := Lib.hid hn2
  rw [hn1] at hg1 hl1 ⊢
  rw [hn2] at hg2 hl2 ⊢
  clear O1 O2 O1' b1 b2 hn1 hn2
  go_wp2_with fail
  go_loopw [7, 8] (fun v7 _ wr => ∃ k : Nat, v7 = .int .i64 k ∧ k ≤ n1 ∧ k ≤ n2 ∧ cmpL cmpC (X.drop k) (Y.drop k) = cmpL cmpC X Y ∧ Below W.heap.size W wr) (fun v7 _ _ => n1 - (RowKit.intOf v7).toNat)
  case atStart => exact ⟨0, rfl, Nat.zero_le _, Nat.zero_le _, by rw [List.drop_zero, List.drop_zero], Below.refl _ _⟩
  case round =>
    obtain ⟨k, rfl, hkn1, hkn2, hrel, hBW⟩ := hrel
    have HREL := Lib.hid hrel
    have hBw := hB.trans (hBW.mono hB.size)
    clear hrel
    by_cases hk : k < n1 ∧ k < n2
    · obtain ⟨hk1n, hk2n⟩ := hk
      have hk1 : k < X.length := by have := HN1.out; omega
      have hk2 : k < Y.length := by have := HN2.out; omega
      obtain ⟨g1, rfl, hg11, hg12⟩ := hg1 (by omega)
      obtain ⟨g2, rfl, hg21, hg22⟩ := hg2 (by omega)
      have hat := HAT.out k hk1 hk2 HREL.out
      obtain ⟨p1, p2⟩ := own_at HO1.out k hk1
      obtain ⟨r1, r2⟩ := own_at HO2.out k hk2
      have hz1 := HS1.out _ (List.getElem_mem hk1)
      have hz2 := HS2.out _ (List.getElem_mem hk2)
      have hy1 := HD1.out _ (List.getElem_mem hk1)
      have hy2 := HD2.out _ (List.getElem_mem hk2)
      obtain ⟨p, hx⟩ : ∃ x, X[k]'hk1 = x := ⟨_, rfl⟩
      obtain ⟨q, hy⟩ : ∃ y, Y[k]'hk2 = y := ⟨_, rfl⟩
      rw [hx] at hat p1 p2 hz1 hy1
      rw [hy] at hat r1 r2 hz2 hy2
      obtain ⟨cz, hcz⟩ : ∃ cz, cmpC p q = cz := ⟨_, rfl⟩
      rw [hcz] at hat
      have HX := Lib.hid hat
      have k1 : ∀ d os, Calls Try.prog 41 #[.agg #[.string p.1, .bool p.2], .agg #[.string q.1, .bool q.2]] (grow (redrawn wr d) os) fun e w'' => e = .returned (.int .i64 cz) ∧ ∃ p : Regrown, w'' = grow (redrawn wr p.d) p.os := fun d os => Calls.regrown_of (by rw [← hcz]; exact ref39_chunk p q (by omega) (by omega) hy1 hy2 _)
      obtain ⟨t1, u1⟩ := p
      obtain ⟨t2, u2⟩ := q
      simp only at p1 p2 r1 r2 k1
      have e1 := (hBW.cell (p := ⟨g1, k * 2, none⟩) hg12).trans p1
      have e2 := (hBW.cell (p := ⟨g1, k * 2 + 1, none⟩) hg12).trans p2
      have e3 := (hBW.cell (p := ⟨g2, k * 2, none⟩) hg22).trans r1
      have e4 := (hBW.cell (p := ⟨g2, k * 2 + 1, none⟩) hg22).trans r2
      have HBW := Lib.hid hBW
      clear hat hx hy hz1 hz2 hy1 hy2 p1 p2 r1 r2 hBW hcz
      go_upto_region 5 with fail
      have q1 := cell_regrown e1
      have q2 := cell_regrown e2
      have q3 := cell_regrown e3
      have q4 := cell_regrown e4
      clear e1 e2 e3 e4
      refine wp_region_quiet_below (by kernel_rfl) (by kernel_rfl) ?_
      repeat (go_big_quiet_step (first | with_reducible exact k1 _ _))
      refine wpQuiet_nil ?_
      rintro w10 ⟨⟨dq, osq⟩, rfl⟩
      have b10 := below_regrown wr dq osq
      have hBW10 := HBW.out.trans (b10.mono HBW.out.size)
      have hBw10 := hBw.trans (b10.mono hBw.size)
      clear b10 k1 q1 q2 q3 q4
      by_cases h0 : cz = 0
      · have hd : (cz != 0) = false := by simp [h0]
        have HR := Lib.hid (HX.out.1 h0)
        clear h0
        go_wp2_with fail
        go_roundw
        case rel => exact ⟨k + 1, by go_num, hk1n, hk2n, HR.out, hBW10⟩
        case measure => simp [RowKit.intOf]; omega
      · have hd : (cz != 0) = true := by simp [h0]
        have HR := Lib.hid (HX.out.2 h0)
        clear h0
        go_wp2_with fail
        go_ret
        exact ⟨ret_iF HR.out.symm, hBw10⟩
    · have hend := HEND.out k (by have := HN1.out; have := HN2.out; omega) HREL.out
      rw [HN1.out, HN2.out] at hend
      have HE := Lib.hid hend
      clear hend
      have hbr : (k < n1 ∧ k = n2) ∨ (k = n1 ∧ k < n2) ∨ (k = n1 ∧ n1 = n2) := by omega
      clear hk
      rcases hbr with ⟨h1, h2⟩ | ⟨h1, h2⟩ | ⟨h1, h2⟩
      · have HV : Hid (N = 1) := Lib.hid (by rw [HE.out]; unfold cmpI; rw [if_neg (by omega), if_pos (by omega)]; rfl)
        have h3 : ¬ n1 < n2 := by omega
        have h4 : n2 < n1 := by omega
        have h5 : ¬ k < n2 := by omega
        clear h2
        go_wp2_with fail
        go_ret
        exact ⟨ret_iF HV.out.symm, hBw⟩
      · have HV : Hid (N = -1) := Lib.hid (by rw [HE.out]; unfold cmpI; rw [if_pos (by omega)]; rfl)
        have h3 : n1 < n2 := by omega
        have h5 : ¬ k < n1 := by omega
        clear h1
        go_wp2_with fail
        go_ret
        exact ⟨ret_iF HV.out.symm, hBw⟩
      · have HV : Hid (N = cmpT a b) := Lib.hid (by rw [HE.out]; unfold cmpI; rw [if_neg (by omega), if_neg (by omega)]; show (if cmpT a b = 0 then 0 else cmpT a b) = _; split <;> simp_all)
        have h3 : ¬ n1 < n2 := by omega
        have h4 : ¬ n2 < n1 := by omega
        have h5 : ¬ k < n1 := by omega
        clear h1 h2
        go_wp2_with fail
        refine (ref39_text a b wr).mono ?_
        rintro e w3 ⟨rfl, rfl⟩
        go_wp2_with fail
        go_ret
        exact ⟨ret_iF HV.out.symm, hBw⟩
end Go.Proofs.Ytfkooohnaodjmaa
