/- Contracts of conf.Put and of the law's own bytes. No condition but that the numbers are those of 64 bits. -/
import Derived.Test.YtfebncpfhdgkpaaPlainC
import Derived.Test.YtfebncpfhdgkpaaWireC
import Derived.Deep.RegionWith
import Derived.Deep.Cut
import Derived.Outline
namespace Go.Proofs.Ytfebncpfhdgkpaa
open Go.RowKit Go.Sort

/-- A configuration's cells. -/
def cfC (e : Int) (P : List (Bool × Int)) : List Value := .int .i64 e :: ((P.map fun p => Value.bool p.1) ++ P.map fun p => Value.int .i64 p.2)
theorem cfC_out (e : Int) (P : List (Bool × Int)) (k : Nat) (hk : k < P.length) : (cfC e P)[1 + k]? = some (.bool P[k].1) := by
  unfold cfC
  rw [Nat.add_comm, List.getElem?_cons_succ, List.getElem?_append_left (by simpa using hk), List.getElem?_map, List.getElem?_eq_getElem hk]
  rfl
theorem cfC_join (e : Int) (P : List (Bool × Int)) (hl : P.length = 5) (k : Nat) (hk : k < P.length) : (cfC e P)[6 + k]? = some (.int .i64 P[k].2) := by
  unfold cfC
  rw [show 6 + k = (5 + k) + 1 by omega, List.getElem?_cons_succ, List.getElem?_append_right (by simp; omega), List.length_map, hl, Nat.add_sub_cancel_left, List.getElem?_map, List.getElem?_eq_getElem hk]
  rfl
def CfPRel (w : World) (e : Int) (P : List (Bool × Int)) (v3 v9 : Value) (wr : World) : Prop :=
  ∃ k : Nat, v9 = .int .i64 k ∧ k ≤ 5 ∧ Own wr (w.heap.size + 1) v3 (cput e (P.take k)) ∧ Blk wr w.heap.size 37 (cfC e P).toArray ∧ Below w.heap.size w wr ∧ (cput e (P.take k)).length ≤ 20 + 20 * k

theorem cput1_len (p : Bool × Int) (h : p.2 ≤ 9223372036854775807) : (cput1 p).length ≤ 20 := by
  have h1 := wput_length (cbit p.1) (by unfold cbit; split <;> omega)
  have h2 := wput_length p.2.toNat (by omega)
  unfold cput1 wputI
  rw [List.length_append]
  omega

set_option maxRecDepth 100000 in
set_option maxHeartbeats 4000000 in
theorem conf_Put (e : Int) (P : List (Bool × Int)) (hl : P.length = 5) (he : e ≤ 9223372036854775807) (hP : ∀ p ∈ P, p.2 ≤ 9223372036854775807) (w : World) :
    Calls Try.prog 57 #[.agg (cfC e P).toArray] w fun x w' => ∃ v', x = .returned v' ∧ Own w' w.heap.size v' (cput e P) ∧ Below w.heap.size w w' := by
  have BK := Blk.new w 37 (cfC e P).toArray
  have hB : Below w.heap.size w (w.alloc (.cells (cfC e P).toArray 37)) := (Below.refl _ _).alloc (Nat.le_refl _) _
  have HP := Lib.hid hP
  have HL := Lib.hid hl
  have q0 : (w.alloc (.cells (cfC e P).toArray 37)).cell? ⟨w.heap.size, 0, none⟩ = some (.int .i64 e) := by rw [BK.cell]; rfl
  have hOW := Lib.hid (wire_Put (w.alloc (.cells (cfC e P).toArray 37)) (w.heap.size + 1) (.slice none 0 0) [] e (Own.nil_ _ _) (by simp) he (by simp))
  clear hP hl
  go_enter Try.func57, Try.ntmps57
  go_wp2_with fail
  generalize w.alloc (.cells (cfC e P).toArray 37) = W at *
  refine hOW.out.mono ?_
  rintro x w1 ⟨v1, rfl, O1, G1, _⟩
  rw [List.nil_append] at O1
  clear hOW q0
  have BK1 := BK.grown G1 (by simp [Value.ownBlock])
  have hB1 := Below.grown hB G1 hB.size (by simp [Value.ownBlock])
  clear BK hB G1
  go_wp2_with fail
  go_loopw [3, 9] (fun v3 v9 wr => CfPRel w e P v3 v9 wr) (fun _ v9 _ => 5 - (intOf v9).toNat)
  case atStart => exact ⟨0, rfl, by omega, by simpa [cput, cputs] using O1, BK1, hB1, by have := wput_length e.toNat (by omega); simp [cput, cputs, wputI]; omega⟩
  case round =>
    clear O1 BK1 hB1
    obtain ⟨k, rfl, hk, O, BK, hB, hlen⟩ := hrel
    by_cases hk5 : k < 5
    · have hkl : k < P.length := by have := HL.out; omega
      have hp := HP.out P[k] (List.getElem_mem hkl)
      have hsn := cput_take_succ e P k hkl
      have hp1 := cput1_len P[k] hp
      have q1 : wr.cell? ⟨w.heap.size, 1 + k, none⟩ = some (.bool P[k].1) := by rw [BK.cell]; simpa using cfC_out e P k hkl
      have q2 : ∀ V, Blk V w.heap.size 37 (cfC e P).toArray → V.cell? ⟨w.heap.size, 6 + k, none⟩ = some (.int .i64 P[k].2) := fun V h => by rw [h.cell]; simpa using cfC_join e P HL.out k hkl
      obtain ⟨o, j, hoj⟩ : ∃ o j, P[k] = (o, j) := ⟨_, _, rfl⟩
      rw [hoj] at hp hsn hp1 q1 q2
      simp only at hp q1 q2
      have HSN := Lib.hid hsn
      have HO := Lib.hid O
      have HQ2 := Lib.hid q2
      have hq3 := q2 wr BK
      clear hoj hsn O q2
      cases o
      · go_upto_region 8 with fail
        have HBK := Lib.hid BK
        have HB := Lib.hid hB
        have hlt := BK.lt
        have HC1 := Lib.hid (wire_Put wr.drew (w.heap.size + 1) u3 (cput e (P.take k)) 0 HO.out (show w.heap.size + 1 ≤ wr.heap.size by omega) (by decide) (by omega))
        clear BK hB q1
        go_region_with (first
          | (go_at_call 77; ((with_reducible refine HC1.out.mono ?_); rintro x w2 ⟨v2, rfl, O2, G2, L2⟩; have hb2 := HBK.out.drew.grown G2 (fun e9 => by have := (HO.out.lt _ e9.symm).1; omega); have hq4 := HQ2.out _ hb2; have HO2 := Lib.hid O2; have HG2 := Lib.hid G2; have HBK2 := Lib.hid hb2; have hs2 := G2.size; clear O2 G2 L2 hb2))
          | (go_at_call 77; refine (wire_Put w2 (w.heap.size + 1) v2 (cput e (P.take k) ++ wputI 0) j HO2.out (by simp at hs2; omega) (by omega) (by have h9 := wput_length (cbit false) (by decide); unfold wputI; rw [List.length_append]; have h8 : (wput (Int.toNat 0)).length ≤ 9 := h9; omega)).mono ?_; rintro x w3 ⟨v3, rfl, O3, G3, L3⟩))
        all_goals
          have hBK3 := HBK2.out.grown G3 (fun e9 => by have := (HO2.out.lt _ e9.symm).1; omega)
          have hB2 := Below.grown (below_drewN HB.out 1) HG2.out HB.out.size (fun x9 h9 => by have := (HO.out.lt x9 h9).1; omega)
          have hB3 := Below.grown hB2 G3 hB2.size (fun x9 h9 => by have := (HO2.out.lt x9 h9).1; omega)
          have hO3 : Own w3 (w.heap.size + 1) v3 (cput e (P.take (k + 1))) := by
            rw [HSN.out]
            have e9 : cput e (P.take k) ++ cput1 (false, j) = (cput e (P.take k) ++ wputI 0) ++ wputI j := by simp [cput1, cbit, wputI]
            rw [e9]
            exact O3
          have hlen3 : (cput e (P.take (k + 1))).length ≤ 20 + 20 * (k + 1) := by
            rw [HSN.out, List.length_append]
            omega
          have HL3 := Lib.hid hlen3
          clear hlen3 O3
          go_wp2_with fail
          go_roundw
          case rel => exact ⟨k + 1, by go_num, by omega, hO3, hBK3, hB3, HL3.out⟩
          case measure => simp [intOf]; omega
      · go_upto_region 8 with fail
        have HBK := Lib.hid BK
        have HB := Lib.hid hB
        have hlt := BK.lt
        have HC1 := Lib.hid (wire_Put wr.drew (w.heap.size + 1) u3 (cput e (P.take k)) 1 HO.out (show w.heap.size + 1 ≤ wr.heap.size by omega) (by decide) (by omega))
        clear BK hB q1
        go_region_with (first
          | (go_at_call 77; ((with_reducible refine HC1.out.mono ?_); rintro x w2 ⟨v2, rfl, O2, G2, L2⟩; have hb2 := HBK.out.drew.grown G2 (fun e9 => by have := (HO.out.lt _ e9.symm).1; omega); have hq4 := HQ2.out _ hb2; have HO2 := Lib.hid O2; have HG2 := Lib.hid G2; have HBK2 := Lib.hid hb2; have hs2 := G2.size; clear O2 G2 L2 hb2))
          | (go_at_call 77; refine (wire_Put w2 (w.heap.size + 1) v2 (cput e (P.take k) ++ wputI 1) j HO2.out (by simp at hs2; omega) (by omega) (by have h9 := wput_length (cbit true) (by decide); unfold wputI; rw [List.length_append]; have h8 : (wput (Int.toNat 1)).length ≤ 9 := h9; omega)).mono ?_; rintro x w3 ⟨v3, rfl, O3, G3, L3⟩))
        all_goals
          have hBK3 := HBK2.out.grown G3 (fun e9 => by have := (HO2.out.lt _ e9.symm).1; omega)
          have hB2 := Below.grown (below_drewN HB.out 1) HG2.out HB.out.size (fun x9 h9 => by have := (HO.out.lt x9 h9).1; omega)
          have hB3 := Below.grown hB2 G3 hB2.size (fun x9 h9 => by have := (HO2.out.lt x9 h9).1; omega)
          have hO3 : Own w3 (w.heap.size + 1) v3 (cput e (P.take (k + 1))) := by
            rw [HSN.out]
            have e9 : cput e (P.take k) ++ cput1 (true, j) = (cput e (P.take k) ++ wputI 1) ++ wputI j := by simp [cput1, cbit, wputI]
            rw [e9]
            exact O3
          have hlen3 : (cput e (P.take (k + 1))).length ≤ 20 + 20 * (k + 1) := by
            rw [HSN.out, List.length_append]
            omega
          have HL3 := Lib.hid hlen3
          clear hlen3 O3
          go_wp2_with fail
          go_roundw
          case rel => exact ⟨k + 1, by go_num, by omega, hO3, hBK3, hB3, HL3.out⟩
          case measure => simp [intOf]; omega
    · have hke : k = 5 := by omega
      subst hke
      rw [List.take_of_length_le (by rw [HL.out]; exact Nat.le_refl _)] at O
      go_wp2_with fail
      go_ret
      exact ⟨_, rfl, O.base_le (Nat.le_succ _), hB⟩
end Go.Proofs.Ytfebncpfhdgkpaa
