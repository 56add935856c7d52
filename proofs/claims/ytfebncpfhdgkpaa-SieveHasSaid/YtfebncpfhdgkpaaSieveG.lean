/- Contracts of the reference's May and Set, and of Filter.Set and Filter.Size. -/
import Derived.Test.YtfebncpfhdgkpaaSieveD
import Derived.Test.YtfebncpfhdgkpaaSieveB
import Derived.Test.YtfebncpfhdgkpaaOwnB
namespace Go.Proofs.Ytfebncpfhdgkpaa
open Go.RowKit Go.Sort

/-- How many bits are set. -/
def countB (m : List Bool) : Nat := (m.filter fun b => b).length
theorem countB_take (m : List Bool) (j : Nat) (hj : j < m.length) : countB (m.take (j + 1)) = countB (m.take j) + bw (m.getD j false) 1 := by
  unfold countB
  rw [List.take_succ_eq_append_getElem hj, List.filter_append, List.length_append, List.getD_eq_getElem?_getD, List.getElem?_eq_getElem hj]
  cases m[j] <;> rfl
theorem countB_le (m : List Bool) : countB m ≤ m.length := List.length_filter_le _ _

set_option maxRecDepth 100000 in
set_option maxHeartbeats 1000000 in
theorem ref14_Set (A : Option Addr) (n c : Nat) (m : List Bool) (w : World) (B : Nat) (hr : Reads w B 1 A n (m.map Value.bool)) (hn : n ≤ 1000000) :
    Calls Try.prog 93 #[.slice A n c] w fun e w' => e = .returned (.int .i64 (countB m : Nat)) ∧ w = w' := by
  have hml : m.length = n := by have := hr.1; simpa using this
  have HR := Lib.hid hr
  have HL := Lib.hid hml
  clear hr hml
  go_enter Try.func93, Try.ntmps93
  go_wp2_with fail
  go_loop [3, 4] (fun v3 v4 => ∃ k : Nat, v4 = .int .i64 k ∧ k ≤ n ∧ v3 = .int .i64 (countB (m.take k) : Nat)) (fun _ v4 => n - (intOf v4).toNat)
  case atStart => exact ⟨0, rfl, Nat.zero_le _, rfl⟩
  case round =>
    obtain ⟨k, rfl, hk, rfl⟩ := hrel
    have hcl := countB_le (m.take k)
    rw [List.length_take] at hcl
    by_cases hkn : k < n
    · obtain ⟨b, off, rfl, hb, hc⟩ := Reads.form HR.out (by omega)
      have hkl : k < m.length := by have := HL.out; omega
      have q0 := hc k (Value.bool m[k]) (by simp [hkl])
      have hs := countB_take m k hkl
      rw [List.getD_eq_getElem?_getD, List.getElem?_eq_getElem hkl, Option.getD_some] at hs
      have HS := Lib.hid hs
      clear hs hc
      obtain ⟨x, hx⟩ : ∃ x, m[k] = x := ⟨_, rfl⟩
      rw [hx] at q0 HS
      clear hx
      obtain ⟨y, hy⟩ : ∃ y, countB (m.take k) = y := ⟨_, rfl⟩
      rw [hy] at HS hcl ⊢
      clear hy
      cases x
      · go_wp2_with fail
        go_round
        case rel => exact ⟨k + 1, by go_num, by omega, by rw [HS.out]; rfl⟩
        case measure => simp [intOf]; omega
      · go_wp2_with fail
        go_round
        case rel => exact ⟨k + 1, by go_num, by omega, by rw [HS.out]; simp [bw]⟩
        case measure => simp [intOf]; omega
    · rw [List.take_of_length_le (by rw [HL.out]; omega)]
      go_wp2_with fail
      go_ret
      exact ⟨rfl, rfl⟩

def pc (x : Nat) : Nat := x % 2 + x / 2 % 2 + x / 4 % 2 + x / 8 % 2 + x / 16 % 2 + x / 32 % 2 + x / 64 % 2 + x / 128 % 2
theorem pc_next : ∀ x : Nat, x < 256 → x ≠ 0 → pc (x &&& (x - 1)) + 1 = pc x ∧ (x &&& (x - 1)) < x := by decide +kernel
theorem pc_nb (m : List Bool) (k : Nat) (hk : 8 * k + 8 ≤ m.length) : countB (m.take (8 * k)) + pc (nb m k) = countB (m.take (8 * k + 8)) := by
  have h : ∀ b0 b1 b2 b3 b4 b5 b6 b7 : Bool, pc (n8 b0 b1 b2 b3 b4 b5 b6 b7) = bw b0 1 + bw b1 1 + bw b2 1 + bw b3 1 + bw b4 1 + bw b5 1 + bw b6 1 + bw b7 1 := by decide +kernel
  unfold nb
  rw [h]
  have e0 := countB_take m (8 * k) (by omega)
  have e1 : countB (m.take (8 * k + 2)) = countB (m.take (8 * k + 1)) + bw (m.getD (8 * k + 1) false) 1 := countB_take m (8 * k + 1) (by omega)
  have e2 : countB (m.take (8 * k + 3)) = countB (m.take (8 * k + 2)) + bw (m.getD (8 * k + 2) false) 1 := countB_take m (8 * k + 2) (by omega)
  have e3 : countB (m.take (8 * k + 4)) = countB (m.take (8 * k + 3)) + bw (m.getD (8 * k + 3) false) 1 := countB_take m (8 * k + 3) (by omega)
  have e4 : countB (m.take (8 * k + 5)) = countB (m.take (8 * k + 4)) + bw (m.getD (8 * k + 4) false) 1 := countB_take m (8 * k + 4) (by omega)
  have e5 : countB (m.take (8 * k + 6)) = countB (m.take (8 * k + 5)) + bw (m.getD (8 * k + 5) false) 1 := countB_take m (8 * k + 5) (by omega)
  have e6 : countB (m.take (8 * k + 7)) = countB (m.take (8 * k + 6)) + bw (m.getD (8 * k + 6) false) 1 := countB_take m (8 * k + 6) (by omega)
  have e7 : countB (m.take (8 * k + 8)) = countB (m.take (8 * k + 7)) + bw (m.getD (8 * k + 7) false) 1 := countB_take m (8 * k + 7) (by omega)
  omega

set_option maxRecDepth 100000 in
set_option maxHeartbeats 1000000 in
theorem filter_Size (A : Option Addr) (n c : Nat) (w : World) (hn : n ≤ 140737488355328) : Calls Try.prog 43 #[.agg #[.slice A n c]] w fun e w' => e = .returned (.int .i64 ((8 * n : Nat) : Int)) ∧ Below w.heap.size w w' := by
  go_enter Try.func43, Try.ntmps43
  go_wp2_with fail
  go_ret
  exact ⟨ret_int (by omega), (Below.refl _ _).alloc (Nat.le_refl _) _⟩

set_option maxRecDepth 100000 in
set_option maxHeartbeats 1000000 in
theorem filter_Set (A : Option Addr) (n c : Nat) (m : List Bool) (w : World) (hr : Reads w w.heap.size 1 A n ((pk m).map vb)) (hm : m.length = 8 * n) (hn : n ≤ 1000000) :
    Calls Try.prog 92 #[.agg #[.slice A n c]] w fun e w' => e = .returned (.int .i64 (countB m : Nat)) ∧ Below w.heap.size w w' := by
  have HR := Lib.hid hr
  have HM := Lib.hid hm
  have hB : Below w.heap.size w (w.alloc (.cells #[.slice A n c] 61)) := (Below.refl _ _).alloc (Nat.le_refl _) _
  clear hr hm
  go_enter Try.func92, Try.ntmps92
  go_wp2_with fail
  generalize w.alloc (.cells #[.slice A n c] 61) = W at *
  go_loop [3, 9] (fun v3 v9 => ∃ k : Nat, v9 = .int .i64 k ∧ k ≤ n ∧ v3 = .int .i64 (countB (m.take (8 * k)) : Nat)) (fun _ v9 => n - (intOf v9).toNat)
  case atStart => exact ⟨0, rfl, Nat.zero_le _, rfl⟩
  case round =>
    obtain ⟨k, rfl, hk, rfl⟩ := hrel
    have hcl := countB_le (m.take (8 * k))
    rw [List.length_take, HM.out] at hcl
    by_cases hkn : k < n
    · obtain ⟨b, off, rfl, hb, hc⟩ := Reads.form (HR.out.below hB) (by omega)
      have q0 : W.cell? ⟨b, off + k, none⟩ = some (.int .u8 ((nb m k : Nat) : Int)) := by
        have h1 := hc k (vb (UInt8.ofNat (nb m k))) (by rw [List.getElem?_map, pk_get m k (by rw [HM.out]; omega)]; rfl)
        rw [h1]
        unfold vb
        rw [UInt8.toNat_ofNat', Nat.mod_eq_of_lt (nb_lt m k)]
      have hpc := pc_nb m k (by rw [HM.out]; omega)
      have hxl := nb_lt m k
      have hcl2 := countB_le (m.take (8 * k + 8))
      rw [List.length_take, HM.out] at hcl2
      obtain ⟨x, hx⟩ : ∃ x, nb m k = x := ⟨_, rfl⟩
      rw [hx] at q0 hpc hxl
      have HPC := Lib.hid hpc
      clear hc hx hpc
      go_wp2_with fail
      obtain ⟨T, hT⟩ : ∃ T, countB (m.take (8 * k + 8)) = T := ⟨_, rfl⟩
      rw [hT] at HPC hcl2
      have HT := Lib.hid hT
      clear hT
      go_loop [3, 5] (fun v3 v5 => ∃ y d : Nat, v5 = .int .u8 (y : Int) ∧ y < 256 ∧ v3 = .int .i64 (d : Int) ∧ d + pc y = T) (fun _ v5 => (intOf v5).toNat)
      case atStart => exact ⟨x, _, rfl, hxl, rfl, HPC.out⟩
      case round =>
        obtain ⟨y, d, rfl, hy, rfl, hd⟩ := hrel
        have HD := Lib.hid hd
        by_cases hy0 : y = 0
        · have hyb : (((y : Nat) : Int) != 0) = false := by simp [hy0]
          have hd2 : d = T := by rw [hy0] at hd; simpa [pc] using hd
          have HD2 := Lib.hid hd2
          clear hy0 hd hd2
          go_wp2_with fail
          go_round
          case rel => exact ⟨k + 1, by go_num, by omega, by rw [show 8 * (k + 1) = 8 * k + 8 by omega, HT.out, HD2.out]⟩
          case measure => simp [intOf]; omega
        · have hyb : (((y : Nat) : Int) != 0) = true := by simp [hy0]
          obtain ⟨p1, p2⟩ := pc_next y hy hy0
          have ha : bits .and .u8 (y : Int) ((y : Int) - 1) = ((y &&& (y - 1) : Nat) : Int) := by
            have h9 := u8_and_nat y (y - 1) hy (by omega)
            rw [show (((y - 1 : Nat)) : Int) = (y : Int) - 1 by omega] at h9
            exact h9
          have hdl : d ≤ T := by omega
          have hd3 : (d + 1) + pc (y &&& (y - 1)) = T := by omega
          have HD3 := Lib.hid hd3
          have hy1 : 1 ≤ y := by omega
          have HA := Lib.hid ha
          clear ha p1 hy0 hd hd3
          go_wp2_with fail
          go_round
          case rel => exact ⟨y &&& (y - 1), d + 1, by rw [HA.out], by omega, by go_num, HD3.out⟩
          case measure => rw [HA.out]; simp [intOf]; omega
    · have hke : k = n := by omega
      subst hke
      rw [← HM.out, List.take_length]
      go_wp2_with fail
      go_ret
      exact ⟨rfl, hB⟩
end Go.Proofs.Ytfebncpfhdgkpaa
