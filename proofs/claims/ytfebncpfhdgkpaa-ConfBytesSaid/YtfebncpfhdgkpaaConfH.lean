/- Contract of the law's own bytes of a configuration. -/
import Derived.Test.YtfebncpfhdgkpaaConfF
import Derived.Test.YtfebncpfhdgkpaaRows1
namespace Go.Proofs.Ytfebncpfhdgkpaa
open Go.RowKit Go.Sort

set_option maxRecDepth 100000 in
set_option maxHeartbeats 2000000 in
theorem law21_bytes (e : Int) (P : List (Bool × Int)) (hl : P.length = 5) (he : e ≤ 9223372036854775807) (hP : ∀ p ∈ P, p.2 ≤ 9223372036854775807) (w : World) :
    Calls Try.prog 58 #[.agg (cfC e P).toArray] w fun x w' => ∃ v', x = .returned v' ∧ Own w' w.heap.size v' (cput e P) ∧ Below w.heap.size w w' := by
  have BK := Blk.new w 37 (cfC e P).toArray
  have hB : Below w.heap.size w (w.alloc (.cells (cfC e P).toArray 37)) := (Below.refl _ _).alloc (Nat.le_refl _) _
  have hsz : (w.alloc (.cells (cfC e P).toArray 37)).heap.size = w.heap.size + 1 := by simp
  have HP := Lib.hid hP
  have HL := Lib.hid hl
  have q0 : (w.alloc (.cells (cfC e P).toArray 37)).cell? ⟨w.heap.size, 0, none⟩ = some (.int .i64 e) := by rw [BK.cell]; rfl
  have HSZ := Lib.hid hsz
  clear hP hl hsz
  go_enter Try.func58, Try.ntmps58
  go_wp2_with fail
  generalize w.alloc (.cells (cfC e P).toArray 37) = W at *
  refine (ref03_Put e W he).mono ?_
  rintro x w1 ⟨v1, rfl, O1, b1⟩
  rw [HSZ.out] at O1
  have BK1 := BK.below b1 BK.lt
  have hB1 := hB.trans (b1.mono hB.size)
  clear BK hB b1 q0
  go_wp2_with fail
  go_loopw [3, 4] (fun v3 v4 wr => CfPRel w e P v3 v4 wr) (fun _ v4 _ => 5 - (intOf v4).toNat)
  case atStart => exact ⟨0, rfl, by omega, by simpa [cput, cputs] using O1, BK1, hB1, by have := wput_length e.toNat (by omega); simp [cput, cputs, wputI]; omega⟩
  case round =>
    clear O1 BK1 hB1
    obtain ⟨k, rfl, hk, O, BK, hB, hlen⟩ := hrel
    by_cases hk5 : k < 5
    · have hkl : k < P.length := by have := HL.out; omega
      have hp := HP.out P[k] (List.getElem_mem hkl)
      have hsn := cput_take_succ e P k hkl
      have hp1 := cput1_len P[k] hp
      have q1 : wr.cell? ⟨w.heap.size, 1 + k, none⟩ = some (.bool P[k].1) := by rw [BK.cell]; simpa using cfC_out e P k hkl
      have q2 : ∀ V, Blk V w.heap.size 37 (cfC e P).toArray → V.cell? ⟨w.heap.size, 6 + k, none⟩ = some (.int .i64 P[k].2) := fun V h => by rw [h.cell]; simpa using cfC_join e P HL.out k hkl
      obtain ⟨o, j, hoj⟩ : ∃ o j, P[k] = (o, j) := ⟨_, _, rfl⟩
      rw [hoj] at hp hsn hp1 q1 q2
      simp only at hp q1 q2
      have HSN := Lib.hid hsn
      have HQ2 := Lib.hid q2
      have hlt := BK.lt
      clear hoj hsn q2
      cases o
      · go_wp2_with (at_builtin; refine append_byte wr (.int .u8 0) 0 rfl _ rfl _ _ rfl (w.heap.size + 1) _ (cput e (P.take k)) rfl O rfl (by omega) (by omega) ?_; intro v2 w2 O2 G2 L2; have BK2 := BK.grown G2 (fun e9 => by have := (O.lt _ e9.symm).1; omega); have hq4 := HQ2.out _ BK2)
        have hB2 := below_own hB hB.size O (Nat.le_succ _) G2
        refine (ref03_Put j w2 hp).mono ?_
        rintro x w3 ⟨v3, rfl, O3, b3⟩
        have O4 := O2.below b3
        have BK3 := BK2.below b3 BK2.lt
        have hB3 := hB2.trans (b3.mono hB2.size)
        have hs3 := Nat.le_trans G2.size b3.size
        obtain ⟨A3, c3, rfl, _, R3⟩ := O3.reads
        clear O O3 b3 hq4 q1
        have hsum : (cput e (P.take k) ++ [0]).length + (wputI j).length ≤ 140737488355328 := by
          have h9 := wput_length j.toNat (by omega)
          unfold wputI
          rw [List.length_append]
          simp only [List.length_singleton]
          omega
        go_wp2_with (at_builtin; refine append_bytes w3 rfl _ _ rfl (w.heap.size + 1) _ (cput e (P.take k) ++ [0]) rfl O4 A3 _ c3 (wputI j) rfl R3 hsum (by omega) ?_; intro v4 w4 O5 G4 L4)
        have BK4 := BK3.grown G4 (fun e9 => by have := (O4.lt _ e9.symm).1; omega)
        have hB4 := below_own hB3 hB3.size O4 (Nat.le_succ _) G4
        have hO5 : Own w4 (w.heap.size + 1) v4 (cput e (P.take (k + 1))) := by
          rw [HSN.out]
          have e9 : cput e (P.take k) ++ cput1 (false, j) = (cput e (P.take k) ++ [0]) ++ wputI j := by simp [cput1, cbit, wput, hi_zero]
          rw [e9]
          exact O5
        have hlen3 : (cput e (P.take (k + 1))).length ≤ 20 + 20 * (k + 1) := by
          rw [HSN.out, List.length_append]
          omega
        have HL3 := Lib.hid hlen3
        clear hlen3 O5
        go_roundw
        case rel => exact ⟨k + 1, by go_num, by omega, hO5, BK4, hB4, HL3.out⟩
        case measure => simp [intOf]; omega
      · go_wp2_with (at_builtin; refine append_byte wr (.int .u8 1) 1 rfl _ rfl _ _ rfl (w.heap.size + 1) _ (cput e (P.take k)) rfl O rfl (by omega) (by omega) ?_; intro v2 w2 O2 G2 L2; have BK2 := BK.grown G2 (fun e9 => by have := (O.lt _ e9.symm).1; omega); have hq4 := HQ2.out _ BK2)
        have hB2 := below_own hB hB.size O (Nat.le_succ _) G2
        refine (ref03_Put j w2 hp).mono ?_
        rintro x w3 ⟨v3, rfl, O3, b3⟩
        have O4 := O2.below b3
        have BK3 := BK2.below b3 BK2.lt
        have hB3 := hB2.trans (b3.mono hB2.size)
        have hs3 := Nat.le_trans G2.size b3.size
        obtain ⟨A3, c3, rfl, _, R3⟩ := O3.reads
        clear O O3 b3 hq4 q1
        have hsum : (cput e (P.take k) ++ [1]).length + (wputI j).length ≤ 140737488355328 := by
          have h9 := wput_length j.toNat (by omega)
          unfold wputI
          rw [List.length_append]
          simp only [List.length_singleton]
          omega
        go_wp2_with (at_builtin; refine append_bytes w3 rfl _ _ rfl (w.heap.size + 1) _ (cput e (P.take k) ++ [1]) rfl O4 A3 _ c3 (wputI j) rfl R3 hsum (by omega) ?_; intro v4 w4 O5 G4 L4)
        have BK4 := BK3.grown G4 (fun e9 => by have := (O4.lt _ e9.symm).1; omega)
        have hB4 := below_own hB3 hB3.size O4 (Nat.le_succ _) G4
        have hO5 : Own w4 (w.heap.size + 1) v4 (cput e (P.take (k + 1))) := by
          rw [HSN.out]
          have e9 : cput e (P.take k) ++ cput1 (true, j) = (cput e (P.take k) ++ [1]) ++ wputI j := by simp [cput1, cbit, wput, hi_zero]
          rw [e9]
          exact O5
        have hlen3 : (cput e (P.take (k + 1))).length ≤ 20 + 20 * (k + 1) := by
          rw [HSN.out, List.length_append]
          omega
        have HL3 := Lib.hid hlen3
        clear hlen3 O5
        go_roundw
        case rel => exact ⟨k + 1, by go_num, by omega, hO5, BK4, hB4, HL3.out⟩
        case measure => simp [intOf]; omega
    · have hke : k = 5 := by omega
      subst hke
      rw [List.take_of_length_le (by rw [HL.out]; exact Nat.le_refl _)] at O
      go_wp2_with fail
      go_ret
      exact ⟨_, rfl, O.base_le (Nat.le_succ _), hB⟩
end Go.Proofs.Ytfebncpfhdgkpaa
