/- Contract of the reference's Replicas. -/
import Derived.Test.YtncdchhpdbmfcaaDoorRngS
namespace Go.Proofs.YtncdchhpdbmfcaaDoor
open Go.RowKit Go.Sort

set_option maxRecDepth 100000 in
set_option maxHeartbeats 1500000 in
theorem ref20_Replicas (N C : Nat) (A : Option Addr) (n c : Nat) (K : List ByteArray) (i : Int) (w : World) (hr : Reads w w.heap.size 1 A n (K.map Value.string)) (hn : n ≤ 3) (hz : ∀ s ∈ K, s.size ≤ 200) (hN5 : N ≤ 5) (hCN : C ≤ N) (h1 : -9223372036854775808 ≤ i) (h2 : i ≤ 9223372036854775807) :
    Calls Tryd.prog 13 #[.int .i64 (N : Int), .int .i64 (C : Int), .slice A n c, .int .i64 i] w fun e w' => ∃ v, e = .returned v ∧ OwnI w' w.heap.size v (repls (⟨#[]⟩ :: K) (sortU (plcs (N * 4))) (C : Int) i) ∧ Below w.heap.size w w' := by
  have hN : K.length = n := by have := hr.1; simpa using this
  have HS := Lib.hid (ref20_Start A n c K i w hr (by omega) h1 h2)
  have HN := Lib.hid hN
  have HR := Lib.hid hr
  clear hr hN
  by_cases hi0 : i < 0
  · have HV : Hid (repls (⟨#[]⟩ :: K) (sortU (plcs (N * 4))) (C : Int) i = []) := Lib.hid (by unfold repls; rw [if_pos (.inl hi0)])
    clear HS
    go_enter Tryd.func13, Tryd.ntmps13
    go_wp2_with fail
    go_ret
    exact ⟨_, rfl, by rw [HV.out]; exact OwnI.nil_ _ _, Below.refl _ _⟩
  · by_cases hin : i > n
    · have HV : Hid (repls (⟨#[]⟩ :: K) (sortU (plcs (N * 4))) (C : Int) i = []) := Lib.hid (by unfold repls; rw [if_pos (.inr (by rw [List.length_cons]; have := HN.out; omega))])
      clear HS
      go_enter Tryd.func13, Tryd.ntmps13
      go_wp2_with fail
      go_ret
      exact ⟨_, rfl, by rw [HV.out]; exact OwnI.nil_ _ _, Below.refl _ _⟩
    · have hst := start_get K i (by omega) (by have := HN.out; omega)
      have hsz : (startT K i).size ≤ 200 := by
        rw [← hst]
        cases h : (((⟨#[]⟩ : ByteArray) :: K)[i.toNat]?) with
        | none => exact Nat.zero_le _
        | some s =>
          rcases List.mem_cons.1 (List.mem_of_getElem? h) with h | h
          · rw [h]; exact Nat.zero_le _
          · exact hz s h
      have hx := hU_lt (rest (startT K i) 0) 0
      have hT : repls (⟨#[]⟩ :: K) (sortU (plcs (N * 4))) (C : Int) i = goalL N (hU (rest (startT K i) 0) 0) (C : Int) [] := by
        unfold repls
        rw [if_neg (by rw [List.length_cons]; have := HN.out; omega), replR_ded _ _ _ (sortU_upU _), hst]
        rfl
      have HP := Lib.hid (fun w1 => ref20_place (startT K i) 0 (by omega) w1)
      obtain ⟨st, hst2⟩ : ∃ st, startT K i = st := ⟨_, rfl⟩
      rw [hst2] at HS HP hT hx
      obtain ⟨x, hxx⟩ : ∃ x, hU (rest st 0) 0 = x := ⟨_, rfl⟩
      rw [hxx] at HP hT hx
      obtain ⟨T, hTT⟩ : ∃ T, repls (⟨#[]⟩ :: K) (sortU (plcs (N * 4))) (C : Int) i = T := ⟨_, rfl⟩
      rw [hTT] at hT ⊢
      have HT := Lib.hid hT
      clear hT hTT hxx hst2 hst hsz
      go_enter Tryd.func13, Tryd.ntmps13
      go_wp2_with fail
      refine HS.out.mono ?_
      rintro e w1 ⟨rfl, rfl⟩
      go_wp2_with fail
      refine (HP.out _).mono ?_
      rintro e w1 ⟨rfl, b1⟩
      have HB1 := Lib.hid b1
      clear b1
      go_wp2_with fail
      go_loopw [10, 11, 12, 13, 14, 15] (fun v10 _ _ _ _ _ wr => ∃ out : List Int, OwnI wr w.heap.size v10 out ∧ out.length ≤ C ∧ goalL N x (C : Int) out = T ∧ Below w.heap.size w wr) (fun v10 _ _ _ _ _ _ => C - slLen v10)
      case atStart => exact ⟨[], OwnI.nil_ _ _, Nat.zero_le _, HT.out.symm, HB1.out⟩
      case round =>
        obtain ⟨out, ho, hoC, hg, hB⟩ := hrel
        have HG := Lib.hid hg
        have HO := Lib.hid ho
        obtain ⟨Ao, co, hv, hlc, -, hro⟩ := ho.reads
        obtain ⟨L, hL⟩ : ∃ L, out.length = L := ⟨_, rfl⟩
        rw [hL] at hv hro hoC hlc
        have HL := Lib.hid hL
        have HRo := Lib.hid hro
        clear hg ho hro hL
        subst hv
        by_cases hLC : L < C
        · have hLN : L < N := by omega
          obtain ⟨wo, hwo⟩ : ∃ wo, wo = wr := ⟨_, rfl⟩
          subst hwo
          have HBo := Lib.hid hB
          clear hB
          go_wp2_with fail
          go_loopw [11, 12, 13, 14, 15] (fun v11 v12 v13 _ _ wr => ∃ (m f : Nat) (b : Int), v13 = .int .i64 m ∧ v11 = .int .i64 b ∧ v12 = .int .u32 f ∧ m ≤ N ∧ Best out x (4 * m) b f ∧ Below wo.heap.size wo wr) (fun _ _ v13 _ _ _ => N - (intOf v13).toNat)
          case atStart => exact ⟨0, 0, -1, rfl, rfl, rfl, Nat.zero_le _, .inl ⟨rfl, rfl, fun q hq => by cases hq⟩, Below.refl _ _⟩
          case round =>
            obtain ⟨m, f, b, rfl, rfl, rfl, hm, hbest, hB⟩ := hrel
            have HBE := Lib.hid hbest
            clear hbest
            by_cases hmN : m < N
            · go_wp2_with fail
              go_loopw [11, 12, 14, 15] (fun v11 v12 v14 _ wr => ∃ (j f : Nat) (b : Int), v14 = .int .i64 ((j : Int) + 1) ∧ v11 = .int .i64 b ∧ v12 = .int .u32 f ∧ j ≤ 4 ∧ Best out x (4 * m + j) b f ∧ Below wo.heap.size wo wr) (fun _ _ v14 _ _ => 5 - (intOf v14).toNat)
              case atStart => exact ⟨0, f, b, rfl, rfl, rfl, Nat.zero_le _, HBE.out, hB⟩
              case round =>
                clear HBE hB
                obtain ⟨j, f, b, rfl, rfl, rfl, hj, hbest, hB⟩ := hrel
                have HBE := Lib.hid hbest
                clear hbest
                by_cases hj4 : j < 4
                · have HPN := Lib.hid (fun w1 => ref20_place ⟨#[110, 111, 100, 101]⟩ (4 * m + j + 1) (by decide) w1)
                  have hndp : nd (plc (4 * m + j)) = (m : Int) := by
                    show (((4 * m + j) / 4 : Nat) : Int) = m
                    congr 1
                    omega
                  have hfr : farU x (plc (4 * m + j)) = (hU (rest ⟨#[110, 111, 100, 101]⟩ 0) (4 * m + j + 1) + 4294967296 - x) % 4294967296 := rfl
                  have hhl := hU_lt (rest ⟨#[110, 111, 100, 101]⟩ 0) (4 * m + j + 1)
                  obtain ⟨hv, hhv⟩ : ∃ hv, hU (rest ⟨#[110, 111, 100, 101]⟩ 0) (4 * m + j + 1) = hv := ⟨_, rfl⟩
                  rw [hhv] at HPN hfr hhl
                  have HND := Lib.hid hndp
                  have HFR := Lib.hid hfr
                  clear hhv hndp hfr
                  have HPX : Hid (4 * (m : Int) + ((j : Int) + 1) = ((4 * m + j + 1 : Nat) : Int)) := Lib.hid (by omega)
                  obtain ⟨D, hD⟩ : ∃ D, farU x (plc (4 * m + j)) = D := ⟨_, rfl⟩
                  have HDF := Lib.hid hD
                  have HD : Hid (((hv : Int) - (x : Int)) % 4294967296 = (D : Int)) := Lib.hid (by rw [← hD, HFR.out]; omega)
                  clear hD HFR
                  go_upto_region 13 with fail
                  go_wp2_with fail
                  rw [HPX.out]
                  refine (HPN.out wr).mono ?_
                  rintro e w2 ⟨rfl, b2⟩
                  have hB2 := hB.trans (b2.mono hB.size)
                  have HIN := Lib.hid (ref20_in Ao L co out (m : Int) w2 ((HRo.out.below hB2).more hB2.size) (by omega))
                  obtain ⟨q, hq⟩ : ∃ q, (out.any fun y => (m : Int) == y) = q := ⟨_, rfl⟩
                  rw [hq] at HIN
                  have HQ := Lib.hid hq
                  clear hq hB b2
                  go_wp2_with fail
                  rw [HD.out]
                  refine HIN.out.mono ?_
                  rintro e w3 ⟨rfl, rfl⟩
                  cases q with
                  | true =>
                    have HB3 := Lib.hid (best_in HBE.out (by rw [HND.out]; exact (any_mem _ _).1 HQ.out))
                    go_wp2_with fail
                    go_roundw
                    case rel => exact ⟨j + 1, f, b, by go_num, rfl, rfl, by omega, HB3.out, hB2⟩
                    case measure => simp [intOf]; omega
                  | false =>
                    have hni : nd (plc (4 * m + j)) ∉ out := by
                      rw [HND.out]
                      intro h
                      have h2 := (any_mem out (m : Int)).2 h
                      rw [HQ.out] at h2
                      cases h2
                    have HNI := Lib.hid hni
                    clear hni
                    by_cases hb : b < 0
                    · have hnew := best_new HBE.out HNI.out (.inl hb)
                      rw [HND.out, HDF.out] at hnew
                      have HNW := Lib.hid hnew
                      clear hnew
                      go_wp2_with fail
                      go_roundw
                      case rel => exact ⟨j + 1, D, (m : Int), by go_num, rfl, rfl, by omega, HNW.out, hB2⟩
                      case measure => simp [intOf]; omega
                    · by_cases hf : D < f
                      · have hnew := best_new HBE.out HNI.out (.inr (by rw [HDF.out]; exact hf))
                        rw [HND.out, HDF.out] at hnew
                        have HNW := Lib.hid hnew
                        clear hnew
                        go_wp2_with fail
                        go_roundw
                        case rel => exact ⟨j + 1, D, (m : Int), by go_num, rfl, rfl, by omega, HNW.out, hB2⟩
                        case measure => simp [intOf]; omega
                      · have HOL := Lib.hid (best_old HBE.out hb (by rw [HDF.out]; exact hf))
                        go_wp2_with fail
                        go_roundw
                        case rel => exact ⟨j + 1, f, b, by go_num, rfl, rfl, by omega, HOL.out, hB2⟩
                        case measure => simp [intOf]; omega
                · have hj5 : j = 4 := by omega
                  subst hj5
                  go_wp2_with fail
                  go_roundw
                  case rel => exact ⟨m + 1, f, b, by go_num, rfl, rfl, by omega, HBE.out, hB⟩
                  case measure => simp [intOf]; omega
            · have hmN' : m = N := by omega
              subst hmN'
              have hgo := best_goal hN5 hx (by rw [HL.out]; omega : (out.length : Int) < (C : Int)) (by omega) HBE.out
              rw [HG.out] at hgo
              have HGO := Lib.hid hgo
              have hBw := HBo.out.trans (hB.mono HBo.out.size)
              have HO5 : Hid (OwnI wr w.heap.size (.slice Ao L co) out) := Lib.hid (HO.out.below hB)
              have HGN := Lib.hid (fun (w' : World) (G : wr.grownBy w' (Value.slice Ao L co).ownBlock) => Below.grown hBw G hBw.size (fun q hq => (HO5.out.lt q hq).1))
              have hTl2 : out.length ≤ 1000000000 := by rw [HL.out]; omega
              have hlen1 : (out ++ [b]).length = L + 1 := by rw [List.length_append, HL.out]; rfl
              have HL1 := Lib.hid hlen1
              clear hlen1 hgo
              go_wp2_with (at_builtin; go_must (refine append_int wr b _ rfl _ _ rfl w.heap.size _ out rfl HO5.out rfl hTl2 hBw.size ?_); intro v7 w7 O7 G7 _; obtain ⟨A7, c7, hv7, _, _, _⟩ := O7.reads; rw [HL1.out] at hv7; subst hv7; have HO7 := Lib.hid O7; have HB7 := Lib.hid (HGN.out w7 G7))
              go_roundw
              case rel => exact ⟨out ++ [b], HO7.out, by rw [HL1.out]; omega, HGO.out.symm, HB7.out⟩
              case measure => simp [slLen]; omega
        · have hfin : out = T := by
            have h := HG.out
            unfold goalL at h
            rwa [fold_full _ _ _ (by rw [HL.out]; omega)] at h
          have HO9 : Hid (OwnI wr w.heap.size (.slice Ao L co) T) := Lib.hid (hfin ▸ HO.out)
          clear hfin
          go_wp2_with fail
          go_ret
          exact ⟨_, rfl, HO9.out, hB⟩
end Go.Proofs.YtncdchhpdbmfcaaDoor
