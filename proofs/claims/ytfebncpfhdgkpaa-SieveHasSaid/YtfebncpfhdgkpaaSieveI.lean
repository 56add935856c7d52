/- Contract of the reference's Bytes. -/
import Derived.Test.YtfebncpfhdgkpaaSieveG
namespace Go.Proofs.Ytfebncpfhdgkpaa
open Go.RowKit Go.Sort

/-- The first i bits, the others not set. -/
def upm (m : List Bool) (i : Nat) : List Bool := m.take i ++ List.replicate (m.length - i) false
theorem upm_len (m : List Bool) (i : Nat) (hi : i ≤ m.length) : (upm m i).length = m.length := by unfold upm; simp; omega
theorem upm_zero (m : List Bool) : upm m 0 = List.replicate m.length false := by simp [upm]
theorem upm_all (m : List Bool) : upm m m.length = m := by simp [upm]
theorem upm_at (m : List Bool) (i : Nat) (hi : i < m.length) : (upm m i).getD i false = false := by
  unfold upm
  rw [List.getD_eq_getElem?_getD, List.getElem?_append_right (by rw [List.length_take]; omega)]
  rw [List.getElem?_replicate]
  split <;> rfl
theorem upm_succ (m : List Bool) (i : Nat) (hi : i < m.length) : upm m (i + 1) = (upm m i).set i m[i] := by
  unfold upm
  have hl : (m.take i).length = i := by simp; omega
  rw [List.set_append_right _ _ (by omega), hl, Nat.sub_self, List.take_succ_eq_append_getElem hi, show m.length - i = (m.length - (i + 1)) + 1 by omega, List.replicate_succ, List.set_cons_zero, List.append_assoc]
  rfl
theorem upm_false (m : List Bool) (i : Nat) (hi : i < m.length) (h : m[i] = false) : upm m (i + 1) = upm m i := by
  rw [upm_succ m i hi, h]
  apply List.ext_getElem?
  intro k
  rw [List.getElem?_set]
  by_cases he : i = k
  · subst he
    have hl := upm_len m i (by omega)
    have h1 := upm_at m i hi
    rw [List.getD_eq_getElem?_getD, List.getElem?_eq_getElem (by omega), Option.getD_some] at h1
    rw [if_pos rfl, if_pos (by omega), List.getElem?_eq_getElem (by omega), h1]
  · rw [if_neg he]
/-- A bit that is not set: to set it is to add it. -/
theorem nb_add (m : List Bool) (p : Nat) (h : m.getD p false = false) : nb m (p / 8) + 2 ^ (p % 8) = nb m (p / 8) ||| 2 ^ (p % 8) := by
  have h8 : p % 8 < 8 := Nat.mod_lt _ (by decide)
  have hp8 : p = 8 * (p / 8) + p % 8 := by omega
  have key : ∀ b0 b1 b2 b3 b4 b5 b6 b7 : Bool, (b0 = false → n8 b0 b1 b2 b3 b4 b5 b6 b7 + 1 = n8 b0 b1 b2 b3 b4 b5 b6 b7 ||| 1) ∧ (b1 = false → n8 b0 b1 b2 b3 b4 b5 b6 b7 + 2 = n8 b0 b1 b2 b3 b4 b5 b6 b7 ||| 2) ∧
    (b2 = false → n8 b0 b1 b2 b3 b4 b5 b6 b7 + 4 = n8 b0 b1 b2 b3 b4 b5 b6 b7 ||| 4) ∧ (b3 = false → n8 b0 b1 b2 b3 b4 b5 b6 b7 + 8 = n8 b0 b1 b2 b3 b4 b5 b6 b7 ||| 8) ∧ (b4 = false → n8 b0 b1 b2 b3 b4 b5 b6 b7 + 16 = n8 b0 b1 b2 b3 b4 b5 b6 b7 ||| 16) ∧
    (b5 = false → n8 b0 b1 b2 b3 b4 b5 b6 b7 + 32 = n8 b0 b1 b2 b3 b4 b5 b6 b7 ||| 32) ∧ (b6 = false → n8 b0 b1 b2 b3 b4 b5 b6 b7 + 64 = n8 b0 b1 b2 b3 b4 b5 b6 b7 ||| 64) ∧ (b7 = false → n8 b0 b1 b2 b3 b4 b5 b6 b7 + 128 = n8 b0 b1 b2 b3 b4 b5 b6 b7 ||| 128) := by decide +kernel
  unfold nb
  generalize p / 8 = k at *
  generalize p % 8 = j at *
  subst hp8
  obtain ⟨c0, c1, c2, c3, c4, c5, c6, c7⟩ := key (m.getD (8 * k) false) (m.getD (8 * k + 1) false) (m.getD (8 * k + 2) false) (m.getD (8 * k + 3) false) (m.getD (8 * k + 4) false) (m.getD (8 * k + 5) false) (m.getD (8 * k + 6) false) (m.getD (8 * k + 7) false)
  match j, h8 with
  | 0, _ => exact c0 h
  | 1, _ => exact c1 h
  | 2, _ => exact c2 h
  | 3, _ => exact c3 h
  | 4, _ => exact c4 h
  | 5, _ => exact c5 h
  | 6, _ => exact c6 h
  | 7, _ => exact c7 h

set_option maxRecDepth 100000 in
set_option maxHeartbeats 2000000 in
theorem ref14_Bytes (A : Option Addr) (n N c : Nat) (m : List Bool) (w : World) (hr : Reads w w.heap.size 1 A n (m.map Value.bool)) (hnN : n = 8 * N) (hn : n ≤ 1000000) :
    Calls Try.prog 95 #[.slice A n c] w fun e w' => ∃ v', e = .returned v' ∧ Own w' w.heap.size v' (pk m) ∧ Below w.heap.size w w' := by
  have hml : m.length = n := by have := hr.1; simpa using this
  have HR := Lib.hid hr
  have HL := Lib.hid hml
  obtain ⟨i0, hi, hz0, hz1, hz2⟩ := info_parts info_u8
  have hq : (n : Int) / 8 = (N : Int) := by omega
  have HNN := Lib.hid hnN
  clear hr hml hnN
  go_enter Try.func95, Try.ntmps95
  go_wp2_with (at_make; refine wpList_make_full _ rfl _ _ 46 rfl w.heap.size 5 i0 (.int .u8 0) 1 Try.underlying46 hi hz0 hz1 .i64 .i64 _ _ N rfl rfl (by first | exact hq | omega) (by first | exact hq | omega) (by rw [hz2]; omega) (by unfold maxLen; omega) (Nat.le_refl _) ?_; intro w2 O2 G2)
  have hO : Own w2 w.heap.size (.slice (some ⟨w.heap.size, 0, none⟩) N N) (pk (upm m 0)) := by
    rw [upm_zero, HL.out, HNN.out, pk_zero]
    unfold Own
    rw [List.length_replicate, List.map_replicate]
    have h9 := O2
    rw [show (Value.int IntKind.u8 0).cells = #[.int .u8 0] from rfl, toList_madeCells_one, Nat.mul_one] at h9
    exact h9
  have hB := below_of_grown_nil G2
  have hlt : w.heap.size < w2.heap.size := (hO.lt _ rfl).2
  have BW := Blk.new w2 133 #[.int .u8 1, .int .u8 2, .int .u8 4, .int .u8 8, .int .u8 16, .int .u8 32, .int .u8 64, .int .u8 128]
  replace hO := hO.alloc (.cells #[.int .u8 1, .int .u8 2, .int .u8 4, .int .u8 8, .int .u8 16, .int .u8 32, .int .u8 64, .int .u8 128] 133)
  replace hB := hB.alloc hB.size (.cells #[.int .u8 1, .int .u8 2, .int .u8 4, .int .u8 8, .int .u8 16, .int .u8 32, .int .u8 64, .int .u8 128] 133)
  clear O2 G2 hi hz0 hz1 hz2
  generalize w2.alloc (.cells #[.int .u8 1, .int .u8 2, .int .u8 4, .int .u8 8, .int .u8 16, .int .u8 32, .int .u8 64, .int .u8 128] 133) = W at *
  generalize w2.heap.size = gw at *
  go_loopw [5] (fun v5 wr => ∃ i : Nat, v5 = .int .i64 i ∧ i ≤ n ∧ Own wr w.heap.size (.slice (some ⟨w.heap.size, 0, none⟩) N N) (pk (upm m i)) ∧ Blk wr gw 133 #[.int .u8 1, .int .u8 2, .int .u8 4, .int .u8 8, .int .u8 16, .int .u8 32, .int .u8 64, .int .u8 128] ∧ Below w.heap.size w wr) (fun v5 _ => n - (intOf v5).toNat)
  case atStart => exact ⟨0, rfl, Nat.zero_le _, hO, BW, hB⟩
  case round =>
    clear hO BW hB
    obtain ⟨i, rfl, hin, hO, BW, hB⟩ := hrel
    by_cases hi : i < n
    · obtain ⟨b, off, rfl, hb, hc⟩ := Reads.form (HR.out.below hB) (by omega)
      have hil : i < m.length := by have := HL.out; omega
      have q0 := hc i (Value.bool m[i]) (by simp [hil])
      have hfal := upm_false m i hil
      have hsuc := upm_succ m i hil
      have hat := upm_at m i hil
      have hul := upm_len m i (by omega)
      obtain ⟨y, hy⟩ : ∃ y, m[i] = y := ⟨_, rfl⟩
      rw [hy] at q0 hfal hsuc
      clear hc hy
      cases y
      · have HF := Lib.hid (hfal rfl)
        clear hfal hsuc hat hul
        go_wp2_with fail
        go_roundw
        case rel => exact ⟨i + 1, by go_num, by omega, by rw [HF.out]; exact hO, BW, hB⟩
        case measure => simp [intOf]; omega
      · have HS := Lib.hid hsuc
        have hadd := nb_add (upm m i) i hat
        have hor := (bit_or (upm m i) i).2
        have hpk : i / 8 < (pk (upm m i)).length := by rw [pk_len, hul]; have := HL.out; have := HNN.out; omega
        have hcell : wr.cell? ⟨w.heap.size, i / 8, none⟩ = some (.int .u8 ((nb (upm m i) (i / 8) : Nat) : Int)) := by
          have h9 := hO.cell_at (i / 8) hpk
          have h8 := pk_get (upm m i) (i / 8) (by rw [pk_len] at hpk; exact hpk)
          rw [List.getElem?_eq_getElem hpk] at h8
          injection h8 with h8
          rw [h9, h8, UInt8.toNat_ofNat', Nat.mod_eq_of_lt (nb_lt _ _)]
        have hfro : wr.frozen? ⟨w.heap.size, i / 8, none⟩ = false := hO.frozen rfl _
        have hw8 : wr.cell? ⟨gw, i % 8, none⟩ = some (.int .u8 ((2 ^ (i % 8) : Nat) : Int)) := by
          rw [BW.cell]
          have h8 : i % 8 < 8 := Nat.mod_lt _ (by decide)
          generalize i % 8 = j at h8 ⊢
          match j, h8 with
          | 0, _ => rfl
          | 1, _ => rfl
          | 2, _ => rfl
          | 3, _ => rfl
          | 4, _ => rfl
          | 5, _ => rfl
          | 6, _ => rfl
          | 7, _ => rfl
        obtain ⟨hO', hG'⟩ := hO.set_at (i / 8) (UInt8.ofNat (nb (upm m i) (i / 8) ||| 2 ^ (i % 8))) (.int .u8 ((nb (upm m i) (i / 8) ||| 2 ^ (i % 8) : Nat) : Int)) (by unfold vb; rw [UInt8.toNat_ofNat', Nat.mod_eq_of_lt hor])
        rw [← pk_set (upm m i) i (by omega)] at hO'
        generalize hX : nb (upm m i) (i / 8) = X at *
        generalize hY : 2 ^ (i % 8) = Y at *
        have hXY : ((X : Int) + (Y : Int)) % 256 = ((X ||| Y : Nat) : Int) := by omega
        have z0 : 0 ≤ (i : Int) / 8 := by omega
        have z1 : (i : Int) / 8 < N := by have := HNN.out; omega
        have z2 : ((i : Int) / 8).toNat = i / 8 := by omega
        have z3 : 0 ≤ (i : Int) % 8 := by omega
        have z4 : (i : Int) % 8 < 8 := by omega
        have z5 : ((i : Int) % 8).toNat = i % 8 := by omega
        have HXY := Lib.hid hXY
        clear hfal hsuc hat hul hXY hX hY hadd
        go_upto_region 7 with fail
        go_region
        rw [HXY.out]
        have hBW' := (BW.grown hG' (by simp; omega)).drew
        have hB' := below_drewN (Below.grown hB hG' hB.size (fun q hq => by injection hq with hq; omega)) 1
        have hO'' := hO'.drewN 1
        go_wp2_with fail
        go_roundw
        case rel => exact ⟨i + 1, by go_num, by omega, by rw [HS.out]; exact hO'', hBW', hB'⟩
        case measure => simp [intOf]; omega
    · have hie : i = m.length := by have := HL.out; omega
      rw [hie, upm_all] at hO
      have HO := Lib.hid hO
      clear hO hie
      go_wp2_with fail
      go_ret
      exact ⟨_, rfl, HO.out, hB⟩
end Go.Proofs.Ytfebncpfhdgkpaa
