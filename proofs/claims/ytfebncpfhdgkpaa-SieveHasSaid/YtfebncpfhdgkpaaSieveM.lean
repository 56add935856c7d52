/- Contract of the reference's Bits: bytes as a row of bits. At most 65536 bytes. -/
import Derived.Test.YtfebncpfhdgkpaaSieveI
namespace Go.Proofs.Ytfebncpfhdgkpaa
open Go.RowKit Go.Sort

/-- Bytes as a row of bits. -/
def ub (l : List UInt8) : List Bool := (List.range (8 * l.length)).map fun p => decide ((l.getD (p / 8) 0).toNat / 2 ^ (p % 8) % 2 = 1)
theorem ub_len (l : List UInt8) : (ub l).length = 8 * l.length := by simp [ub]
theorem ub_get (l : List UInt8) (p : Nat) (hp : p < 8 * l.length) : (ub l).getD p false = decide ((l.getD (p / 8) 0).toNat / 2 ^ (p % 8) % 2 = 1) := by
  rw [List.getD_eq_getElem?_getD]
  unfold ub
  simp [hp]
theorem n8_of : ∀ x : Nat, x < 256 → n8 (decide (x / 2 ^ 0 % 2 = 1)) (decide (x / 2 ^ 1 % 2 = 1)) (decide (x / 2 ^ 2 % 2 = 1)) (decide (x / 2 ^ 3 % 2 = 1)) (decide (x / 2 ^ 4 % 2 = 1)) (decide (x / 2 ^ 5 % 2 = 1)) (decide (x / 2 ^ 6 % 2 = 1)) (decide (x / 2 ^ 7 % 2 = 1)) = x := by decide +kernel
theorem nb_ub (l : List UInt8) (k : Nat) (hk : k < l.length) : nb (ub l) k = l[k].toNat := by
  unfold nb
  rw [ub_get l _ (by omega), ub_get l _ (by omega), ub_get l _ (by omega), ub_get l _ (by omega), ub_get l _ (by omega), ub_get l _ (by omega), ub_get l _ (by omega), ub_get l _ (by omega)]
  have e : ∀ j, j < 8 → (8 * k + j) / 8 = k ∧ (8 * k + j) % 8 = j := fun j hj => by omega
  rw [show 8 * k / 8 = k by omega, show 8 * k % 8 = 0 by omega, (e 1 (by omega)).1, (e 1 (by omega)).2, (e 2 (by omega)).1, (e 2 (by omega)).2, (e 3 (by omega)).1, (e 3 (by omega)).2, (e 4 (by omega)).1, (e 4 (by omega)).2, (e 5 (by omega)).1, (e 5 (by omega)).2, (e 6 (by omega)).1, (e 6 (by omega)).2, (e 7 (by omega)).1, (e 7 (by omega)).2]
  have h0 : l.getD k 0 = l[k] := by rw [List.getD_eq_getElem?_getD, List.getElem?_eq_getElem hk]; rfl
  rw [h0]
  exact n8_of _ (UInt8.toNat_lt _)
theorem pk_ub (l : List UInt8) : pk (ub l) = l := by
  apply List.ext_getElem?
  intro k
  by_cases hk : k < l.length
  · rw [pk_get _ _ (by rw [ub_len]; omega), nb_ub l k hk, List.getElem?_eq_getElem hk]
    simp
  · rw [List.getElem?_eq_none (by rw [pk_len, ub_len]; omega), List.getElem?_eq_none (by omega)]

/-- 'string(b)' of any bytes, the nil slice's too. -/
theorem run_string_of (w : World) (B : Nat) (A : Option Addr) (n c : Nat) (l : List UInt8) (hr : Reads w B 1 A n (l.map vb)) :
    (convert 46 9 (.slice A n c)).run Try.prog w = .ok (.string ⟨l.toArray⟩) w := by
  have hl := hr.len
  cases A with
  | none =>
    have h0 : n = 0 := by
      rcases Nat.eq_zero_or_pos n with h | h
      · exact h
      · obtain ⟨ad, h1, _⟩ := hr.2 h
        cases h1
    subst h0
    have hl0 := List.eq_nil_of_length_eq_zero hl
    subst hl0
    rw [run_convert_bytes_string w 46 9 5 none 0 c Try.underlying46 Try.underlying5 Try.underlying9]
    simp [Conv.bytesToString]
    rfl
  | some ad =>
    subst hl
    refine run_convert_bytes_back w _ _ 5 _ c l Try.underlying46 Try.underlying5 Try.underlying9 fun j hj => ?_
    obtain ⟨ad', h1, _, h3⟩ := hr.2 (by omega)
    injection h1 with h1
    subst h1
    exact h3 j _ (by simp [hj, vb])

set_option maxRecDepth 100000 in
set_option maxHeartbeats 2000000 in
theorem ref14_Bits (A : Option Addr) (n c : Nat) (l : List UInt8) (w : World) (hr : Reads w w.heap.size 1 A n (l.map vb)) (hn : n ≤ 65536) :
    Calls Try.prog 60 #[.slice A n c] w fun e w' => ∃ v', e = .returned v' ∧ OwnB w' w.heap.size v' (ub l) ∧ Below w.heap.size w w' := by
  have hl := hr.len
  have HR := Lib.hid hr
  have HL := Lib.hid hl
  obtain ⟨i0, hi, hz0, hz1, hz2⟩ := info_parts info_bool
  clear hr hl
  go_enter Try.func60, Try.ntmps60
  go_wp2_with (at_make; refine wpList_make_full _ rfl _ _ 87 rfl w.heap.size 4 i0 (.bool false) 1 Try.underlying87 hi hz0 hz1 .i64 .i64 _ _ (8 * n) rfl rfl (by omega) (by omega) (by rw [hz2]; omega) (by unfold maxLen; omega) (Nat.le_refl _) ?_; intro w2 O2 G2)
  have hO : OwnB w2 w.heap.size (.slice (some ⟨w.heap.size, 0, none⟩) (8 * n) (8 * n)) (upm (ub l) (8 * 0)) := by
    rw [show 8 * 0 = 0 from rfl, upm_zero, ub_len, HL.out]
    unfold OwnB
    rw [List.length_replicate, List.map_replicate]
    have h9 := O2
    rw [show (Value.bool false).cells = #[.bool false] from rfl, toList_madeCells_one, Nat.mul_one] at h9
    exact h9
  have hB := below_of_grown_nil G2
  clear O2 G2 hi hz0 hz1 hz2
  go_loopw [4] (fun v4 wr => ∃ i : Nat, v4 = .int .i64 i ∧ i ≤ n ∧ OwnB wr w.heap.size (.slice (some ⟨w.heap.size, 0, none⟩) (8 * n) (8 * n)) (upm (ub l) (8 * i)) ∧ Below w.heap.size w wr) (fun v4 _ => n - (intOf v4).toNat)
  case atStart => exact ⟨0, rfl, Nat.zero_le _, hO, hB⟩
  case round =>
    clear hO hB
    obtain ⟨i, rfl, hin, hO, hB⟩ := hrel
    by_cases hi : i < n
    · obtain ⟨b, off, rfl, hb, hc⟩ := Reads.form (HR.out.below hB) (by omega)
      have hil : i < l.length := by have := HL.out; omega
      have q0 := hc i (vb l[i]) (by simp [hil])
      unfold vb at q0
      have hx : l.getD i 0 = l[i] := by rw [List.getD_eq_getElem?_getD, List.getElem?_eq_getElem hil]; rfl
      have hx2 : l[i].toNat < 256 := UInt8.toNat_lt _
      obtain ⟨x, hxx⟩ : ∃ x, l[i].toNat = x := ⟨_, rfl⟩
      rw [hxx] at q0 hx2
      have HX : Hid (∀ k, k < 8 → (ub l).getD (8 * i + k) false = decide (x / 2 ^ k % 2 = 1)) := Lib.hid (by
        intro k hk
        rw [ub_get l _ (by omega), show (8 * i + k) / 8 = i by omega, show (8 * i + k) % 8 = k by omega, hx, hxx])
      clear hc hx hxx
      go_wp2_with fail
      go_loopw [5, 6] (fun v5 v6 wr => ∃ k : Nat, v6 = .int .i64 k ∧ k ≤ 8 ∧ (∃ y : Nat, y = x / 2 ^ k ∧ v5 = .int .i64 y) ∧ OwnB wr w.heap.size (.slice (some ⟨w.heap.size, 0, none⟩) (8 * n) (8 * n)) (upm (ub l) (8 * i + k)) ∧ Below w.heap.size w wr) (fun _ v6 _ => 8 - (intOf v6).toNat)
      case atStart => exact ⟨0, rfl, Nat.zero_le _, ⟨x, by simp, rfl⟩, hO, hB⟩
      case round =>
        clear hO hB
        obtain ⟨k, rfl, hk8, ⟨y, hy, rfl⟩, hO, hB⟩ := hrel
        by_cases hk : k < 8
        · have hy2 : y < 256 := by rw [hy]; exact Nat.lt_of_le_of_lt (Nat.div_le_self _ _) hx2
          have hyn : y / 2 = x / 2 ^ (k + 1) := by rw [hy, Nat.pow_succ, Nat.div_div_eq_div_mul]
          have hpl : 8 * i + k < (ub l).length := by rw [ub_len]; omega
          have hst := upm_succ (ub l) (8 * i + k) hpl
          have hbit := HX.out k hk
          rw [List.getD_eq_getElem?_getD, List.getElem?_eq_getElem hpl, Option.getD_some, ← hy] at hbit
          rw [hbit] at hst
          have hval : ((y : Int) % 2 == 1) = decide (y % 2 = 1) := by
            by_cases h : y % 2 = 1
            · rw [decide_eq_true h, beq_iff_eq]; omega
            · rw [decide_eq_false h, beq_eq_false_iff_ne]; omega
          generalize decide (y % 2 = 1) = d at *
          have hul := upm_len (ub l) (8 * i + k) (by omega)
          rw [ub_len, HL.out] at hul
          obtain ⟨m, hm⟩ : ∃ m, upm (ub l) (8 * i + k) = m := ⟨_, rfl⟩
          rw [hm] at hO hst hul
          have HST := Lib.hid hst
          have HY := Lib.hid hyn
          obtain ⟨hO', hG'⟩ := hO.set_at (8 * i + k) d
          have hcell := hO.cell_at (8 * i + k) (by omega)
          have hfro := hO.frozen_at (8 * i + k)
          have hB' := Below.grown hB hG' hB.size (fun q hq => by injection hq with hq; omega)
          have z1 : 8 * (i : Int) + (k : Int) < 8 * (n : Int) := by omega
          have z0 : 0 ≤ 8 * (i : Int) + (k : Int) := by omega
          have z2 : (8 * (i : Int) + (k : Int)).toNat = 8 * i + k := by omega
          clear hst hyn hm hbit hpl hy
          go_wp2_with fail
          go_roundw
          case rel => exact ⟨k + 1, by go_num, by omega, ⟨y / 2, HY.out, by go_num⟩, by rw [← Nat.add_assoc, HST.out]; exact hO', hB'⟩
          case measure => simp [intOf]; omega
        · have hke : k = 8 := by omega
          subst hke
          have HO := Lib.hid hO
          clear hO hy
          go_wp2_with fail
          go_roundw
          case rel => exact ⟨i + 1, by go_num, by omega, by rw [show 8 * (i + 1) = 8 * i + 8 by omega]; exact HO.out, hB⟩
          case measure => simp [intOf]; omega
    · have hie : 8 * i = (ub l).length := by rw [ub_len]; have := HL.out; omega
      rw [hie, upm_all] at hO
      have HO := Lib.hid hO
      clear hO hie
      go_wp2_with fail
      go_ret
      exact ⟨_, rfl, HO.out, hB⟩
end Go.Proofs.Ytfebncpfhdgkpaa
