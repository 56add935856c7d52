/- Contract of the reference's Chunks. -/
import Derived.Test.YtfkooohnaodjmaaFolC
namespace Go.Proofs.Ytfkooohnaodjmaa
open Go.RowKit Go.Sort

theorem stand_rowF {w w' : World} {u : Array Value} {T : TypeId} {n size base N : Nat} {e : TypeId} {v : Value} {xs : List Value} (h : w.ownsRow base e size v n xs) (hN : N ≤ base) (hg : (w.alloc (.cells u T)).grownBy w' v.ownBlock) : Stand (· < N) (w.alloc (.cells u T)) w' :=
  Stand.of_grown hg (fun q hq hs => by have := (World.ownsRow.lt h q hq).1; omega)
/-- Is the next rune of the run's kind? -/
def runZ (R : List Nat) (k : Nat) (b : Bool) : Bool := match R[k]? with | some r => dig r == b | none => false

set_option maxRecDepth 100000 in
set_option maxHeartbeats 4000000 in
theorem ref39_Chunks (s : ByteArray) (hs : s.size ≤ 100000000) (w : World) : Calls Try.prog 40 #[.string s] w fun e w' => ∃ v, e = .returned v ∧ OwnK 81 w' w.heap.size v (chunksB s) ∧ Below w.heap.size w w' := by
  obtain ⟨B, hB9⟩ : ∃ B, chunksB s = B := ⟨_, rfl⟩
  have HBB := Lib.hid hB9
  rw [hB9]
  clear hB9
  have hcv := conv_runes s (by omega)
  have HCC := Lib.hid (rnW_cell s w)
  have hB0 := rnW_below s w
  have hsz := rnW_size s w
  have hRl := rest_length s 0
  have hcz := rnC_le s w
  obtain ⟨R, hR⟩ : ∃ R, rest s 0 = R := ⟨_, rfl⟩
  obtain ⟨n, hn⟩ : ∃ n, R.length = n := ⟨_, rfl⟩
  rw [hR] at HCC hcv hRl hcz
  rw [hn] at hcv hRl hcz
  have HR := Lib.hid hR
  have HN := Lib.hid hn
  clear hR hn
  go_enter Try.func40, Try.ntmps40
  go_wp2_with fail
  generalize rnC s w = cz at *
  generalize rnW s w = W at *
  clear hcv
  have O0 : OwnK 81 W W.heap.size (.slice none 0 0) [] := World.ownsRow_nil _ _ _ _
  go_loopw [3, 5, 6] (fun v3 v5 _ wr => ∃ (i : Nat) (C : List Ch), v5 = .int .i64 i ∧ i ≤ n ∧ (chP (R.take i)).map Chk.ch = C ∧ C.length ≤ i ∧ (∀ r, R[i]? = some r → lastB (chP (R.take i)) (dig r) = false) ∧ OwnK 81 wr W.heap.size v3 C ∧ Below W.heap.size W wr) (fun _ v5 _ _ => n - (RowKit.intOf v5).toNat)
  case atStart => exact ⟨0, [], rfl, Nat.zero_le _, rfl, Nat.le_refl _, fun _ _ => rfl, O0, Below.refl _ _⟩
  case round =>
    clear O0
    obtain ⟨i, C, rfl, hi, hC, hCl, hlast, hO, hB⟩ := hrel
    have HO := Lib.hid hO
    have HC := Lib.hid hC
    have HL := Lib.hid hlast
    clear hO hC hlast
    by_cases hin : i < n
    · have hiR : i < R.length := by have := HN.out; omega
      obtain ⟨x, hx⟩ : ∃ x, R[i]'hiR = x := ⟨_, rfl⟩
      have HX : Hid (R[i]? = some x) := Lib.hid (by rw [List.getElem?_eq_getElem hiR, hx])
      have HX0 := Lib.hid hx
      obtain ⟨b0, hb0⟩ : ∃ b0, dig x = b0 := ⟨_, rfl⟩
      have HB0 := Lib.hid hb0
      obtain ⟨wo, hwo⟩ : ∃ wo, wo = wr := ⟨_, rfl⟩
      subst hwo
      have hwW : w.heap.size < W.heap.size := by omega
      have hsW := hB.size
      clear hx hb0
      go_wp2_with fail
      go_loopw [6] (fun v6 wr => ∃ k : Nat, v6 = .int .i64 k ∧ i ≤ k ∧ k ≤ n ∧ (∀ j r, i ≤ j → j < k → R[j]? = some r → dig r = b0) ∧ Below wo.heap.size wo wr) (fun v6 _ => n - (RowKit.intOf v6).toNat)
      case atStart => exact ⟨i, rfl, Nat.le_refl _, hi, fun j r h1 h2 => by omega, Below.refl _ _⟩
      case round =>
        obtain ⟨k, rfl, hik, hkn, hall, hBo⟩ := hrel
        have HALL := Lib.hid hall
        clear hall
        have hBw := hB.trans (hBo.mono hsW)
        have c1 : wr.cell? ⟨w.heap.size, i, none⟩ = some (.int .i32 (x : Nat)) := (hBw.cell (p := ⟨w.heap.size, i, none⟩) hwW).trans (HCC.out i x HX.out)
        obtain ⟨z, hz⟩ : ∃ z, runZ R k b0 = z := ⟨_, rfl⟩
        have HZ := Lib.hid hz
        clear hz
        go_upto_region 6 with fail
        go_cut [30] from 14 to 32 (fun s30 wx => s30 = .bool z ∧ Below wr.heap.size wr wx)
        case first =>
          by_cases hkn2 : k < n
          · have hkR : k < R.length := by have := HN.out; omega
            obtain ⟨y, hy⟩ : ∃ y, R[k]'hkR = y := ⟨_, rfl⟩
            have hy2 : R[k]? = some y := by rw [List.getElem?_eq_getElem hkR, hy]
            have c2 : wr.cell? ⟨w.heap.size, k, none⟩ = some (.int .i32 (y : Nat)) := (hBw.cell (p := ⟨w.heap.size, k, none⟩) hwW).trans (HCC.out k y hy2)
            have HZ2 : Hid ((dig y == b0) = z) := Lib.hid (by rw [← HZ.out]; unfold runZ; rw [hy2])
            have k1 : ∀ d os, Calls Try.prog 59 #[.int .i32 y] (grow (redrawn wr d) os) fun e w'' => e = .returned (.bool (dig y)) ∧ ∃ p : Regrown, w'' = grow (redrawn wr p.d) p.os := fun d os => Calls.regrown_of ((ref39_digit y _).mono fun e w' ⟨he, hw⟩ => ⟨he, hw ▸ Below.refl _ _⟩)
            have k2 : ∀ d os, Calls Try.prog 59 #[.int .i32 x] (grow (redrawn wr d) os) fun e w'' => e = .returned (.bool b0) ∧ ∃ p : Regrown, w'' = grow (redrawn wr p.d) p.os := fun d os => Calls.regrown_of ((ref39_digit x _).mono fun e w' ⟨he, hw⟩ => ⟨by rw [← HB0.out]; exact he, hw ▸ Below.refl _ _⟩)
            have q1 := cell_regrown c1
            have q2 := cell_regrown c2
            obtain ⟨y0, hy0⟩ : ∃ y0, dig y = y0 := ⟨_, rfl⟩
            rw [hy0] at k1 HZ2
            clear c1 c2 hy hy2 hy0
            refine wp_region_quiet_below (by kernel_rfl) (by kernel_rfl) ?_
            repeat (go_big_quiet_step (first | with_reducible exact k1 _ _ | with_reducible exact k2 _ _))
            refine wpQuiet_nil ?_
            rintro w1 ⟨⟨dq, osq⟩, rfl⟩
            have b9 := below_regrown wr dq osq
            go_wp2_with fail
            go_meet
            case rel => exact ⟨by rw [← HZ2.out], b9⟩
          · have hz : z = false := by
              rw [← HZ.out]
              unfold runZ
              rw [List.getElem?_eq_none (by rw [HN.out]; omega)]
            subst hz
            clear c1
            go_region
            go_wp2_with fail
            go_meet
            case rel => exact ⟨rfl, (Below.refl _ wr).drew⟩
        case rest =>
        obtain ⟨rfl, b9⟩ := hcut
        cases z with
        | true =>
          obtain ⟨hkn2, hyy⟩ : k < n ∧ ∀ r, R[k]? = some r → dig r = b0 := by
            have h := HZ.out
            unfold runZ at h
            cases hg : R[k]? with
            | none => rw [hg] at h; cases h
            | some r =>
              rw [hg] at h
              have hk9 := (List.getElem?_eq_some_iff.1 hg).1
              have := HN.out
              exact ⟨by omega, fun r' h' => by injection h' with h'; rw [← h']; exact eq_of_beq h⟩
          have HY := Lib.hid hyy
          clear hyy c1
          go_wp2_with fail
          go_roundw
          case rel => exact ⟨k + 1, by go_num, by omega, hkn2, (fun j r h1 h2 h3 => by
            rcases Nat.lt_or_ge j k with h | h
            · exact HALL.out j r h1 h h3
            · have e : j = k := by omega
              subst e
              exact HY.out r h3), hBo.trans (b9.mono hBo.size)⟩
          case measure => simp [RowKit.intOf]; omega
        | false =>
          have hik2 : i < k := by
            rcases Nat.lt_or_ge i k with h | h
            · exact h
            · have e : k = i := by omega
              subst e
              have h := HZ.out
              unfold runZ at h
              rw [HX.out] at h
              have h9 := HB0.out
              simp [h9] at h
          have HEND : Hid (∀ r, R[k]? = some r → dig r ≠ b0) := Lib.hid (fun r hr he => by
            have h := HZ.out
            unfold runZ at h
            rw [hr] at h
            simp [he] at h)
          obtain ⟨T, hT⟩ : ∃ T, (R.drop i).take (k - i) = T := ⟨_, rfl⟩
          have hTl : T.length = k - i := by rw [← hT, List.length_take, List.length_drop]; have := HN.out; omega
          have HNEW : Hid ((chP (R.take k)).map Chk.ch = C ++ [(strE T, b0)]) := Lib.hid (by
            have hkR : k ≤ R.length := by have := HN.out; omega
            have hiR' : i < R.length := hiR
            have h1 := chP_step R i k hik2 hkR (fun j hj1 hj2 => by
              have hjR : j < R.length := by omega
              rw [HALL.out j _ hj1 hj2 (List.getElem?_eq_getElem hjR), HX0.out, HB0.out]) (by rw [HX0.out]; exact HL.out x HX.out)
            rw [h1, List.map_append, HC.out, hT, HX0.out, HB0.out]
            rfl)
          have HLST : Hid (∀ r, R[k]? = some r → lastB (chP (R.take k)) (dig r) = false) := Lib.hid (fun r hr => by
            have hkR := (List.getElem?_eq_some_iff.1 hr).1
            refine lastB_of (by omega) (.inr ⟨by omega, ?_⟩)
            have h1 := HALL.out (k - 1) (R[k - 1]'(by omega)) (by omega) (by omega) (List.getElem?_eq_getElem (by omega))
            rw [h1]
            exact (HEND.out r hr).symm)
          have hBw9 := hBw.trans (b9.mono hBw.size)
          have hBo9 := hBo.trans (b9.mono hBo.size)
          have HO9 := Lib.hid (HO.out.below (hBo9))
          obtain ⟨W8, hW8⟩ : ∃ W8, W8 = wc := ⟨_, rfl⟩
          subst hW8
          have HTC : Hid (∀ j r : Nat, T[j]? = some r → W8.drew.cell? ⟨w.heap.size, i + j, none⟩ = some (rv r)) := Lib.hid (fun j r hj => by
            have hj2 := (List.getElem?_eq_some_iff.1 hj).1
            have hj3 : R[i + j]? = some r := by
              rw [← hT, List.getElem?_take_of_lt (by omega), List.getElem?_drop] at hj
              exact hj
            exact (hBw9.cell (p := ⟨w.heap.size, i + j, none⟩) hwW).trans (HCC.out (i + j) r hj3))
          clear hT hBw hBo HALL HZ b9 c1
          go_upto_region 8 with fail
          have q1 : ∀ p : Kept (· < W.heap.size) W8.drew, p.v.cell? ⟨w.heap.size, i, none⟩ = some (.int .i32 (x : Nat)) := fun p => p.h.cell hwW ((hBw9.cell (p := ⟨w.heap.size, i, none⟩) hwW).trans (HCC.out i x HX.out))
          have hcv : ∀ p : Kept (· < W.heap.size) W8.drew, (convert 91 9 (.slice (some ⟨w.heap.size, i, none⟩) (k - i) (cz - i))).run Try.prog p.v = .ok (.string (strE T)) p.v := fun p => conv_row hTl (fun j r hj => p.h.cell hwW (HTC.out j r hj))
          have HO9d : Hid (OwnK 81 W8.drew W.heap.size u3 C) := Lib.hid (HO9.out.below (below_drewN (Below.refl _ _) 1))
          have hbs8 : W.heap.size ≤ W8.drew.heap.size := hBw9.size
          have hCb : C.length ≤ 1000000000 := by omega
          have hlo : (0 : Int) ≤ (i : Int) := by omega
          have hhi : (i : Int) ≤ (k : Int) := by omega
          have hkc : (k : Int) ≤ (cz : Int) := by omega
          refine wp_region_mixTk (M := []) (· < W.heap.size) 14 [0, 1, 2, 3, 4, 5, 6, 7, 8, 9, 10, 11, 12, 13] (by kernel_rfl) (by kernel_rfl) ?_
          iterate 5 (refine mix_calmDk rfl rfl ?_; go_big_quiet_step (fail); refine wpQuiet_nil ?_)
          iterate 5 (refine mix_calmDk rfl rfl ?_; go_big_quiet_step (fail); refine wpQuiet_nil ?_)
          refine mix_loudDk rfl (by kernel_rfl) rfl ?_
          intro K1 hK1
          have HK := Lib.hid hK1
          clear hK1 q1 hcv
          go_wp2_with fail
          refine ((ref39_digit x W8.drew)).mono ?_
          rintro e w9 ⟨rfl, rfl⟩
          go_wp2_with fail
          refine HK.out _ _ (Stand.refl _ _) ?_
          clear HK
          rw [HB0.out]
          iterate 1 (refine mix_calmDk rfl rfl ?_; go_big_quiet_step (fail); refine wpQuiet_nil ?_)
          refine mix_loudDk rfl (by kernel_rfl) rfl ?_
          intro K1 hK1
          have HK := Lib.hid hK1
          clear hK1 
          go_wp2_with fail
          refine HK.out _ _ ((Stand.refl _ _).alloc _) ?_
          clear HK
          refine mix_loudDk rfl (by kernel_rfl) rfl ?_
          intro K1 hK1
          have HK := Lib.hid hK1
          clear hK1 
          go_wp2_with (at_builtin; go_must (refine append_refc W8.drew (strE T, b0) _ (by first | rfl | simp [chL]) _ rfl _ _ rfl W.heap.size _ C rfl HO9d.out rfl hCb hbs8 ?_); intro v13 w13 O13 G13)
          have HO13 := Lib.hid O13
          have b13 := Lib.hid (Below.grown ((below_drewN hBw9 1).alloc hbs8 _) G13 (by rw [World.size_alloc]; exact Nat.le_succ_of_le hbs8) (fun q hq => (World.ownsRow.lt HO9d.out q hq).1))
          refine HK.out _ _ (stand_rowF HO9d.out (Nat.le_refl _) G13) ?_
          clear HK
          refine mix_endDk ?_
          obtain ⟨A13, c13, rfl, -, -, -⟩ := HO13.out.form
          go_wp2_with fail
          go_roundw
          case rel => exact ⟨k, C ++ [(strE T, b0)], rfl, hkn, HNEW.out, by rw [List.length_append]; show C.length + 1 ≤ _; omega, HLST.out, (by have h := HO13.out; rw [show (C ++ [(strE T, b0)]).length = C.length + 1 by rw [List.length_append]; rfl] at h; exact h), b13.out⟩
          case measure => simp [RowKit.intOf]; omega
    · have hin' : i = n := by omega
      subst hin'
      have HF : Hid (C = B) := Lib.hid (by
        rw [← HBB.out, ← HC.out]
        unfold chunksB
        rw [HR.out, List.take_of_length_le (by have := HN.out; omega)])
      rw [HF.out] at HO
      obtain ⟨A3, c3, rfl, -, -, -⟩ := HO.out.form
      go_wp2_with fail
      go_ret
      exact ⟨_, rfl, HO.out.base_le (by omega), hB0.trans (hB.mono (by omega))⟩
end Go.Proofs.Ytfkooohnaodjmaa
