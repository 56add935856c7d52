/- Contracts of hist.Bucket and hist.Bounds, and of the law's own bucket. -/
import Derived.Test.YtfebncpfhdgkpaaWords
import Derived.OwnWalk
import Derived.Deep.Cut
import Derived.StillTailTactics
namespace Go.Proofs.Ytfebncpfhdgkpaa
open Go.RowKit Go.Sort

/-- The least i from here on, below 23, with N < 2^i; else 23. -/
def bk : Nat → Nat → Nat → Nat
  | 0, _, i => i
  | f + 1, N, i => if N < 2 ^ i then i else bk f N (i + 1)
def bkt (n : Int) : Nat := bk 23 n.toNat 0
theorem bk_step (N i : Nat) (h : i < 23) : bk (23 - i) N i = if N < 2 ^ i then i else bk (23 - (i + 1)) N (i + 1) := by
  obtain ⟨f, hf⟩ : ∃ f, 23 - i = f + 1 := ⟨22 - i, by omega⟩
  rw [hf, show 23 - (i + 1) = f by omega]
  rfl

theorem pow_le (i : Nat) (h : i < 23) : 2 ^ i ≤ 4194304 := Nat.pow_le_pow_right (by decide) (show i ≤ 22 by omega)
theorem pow_wrap (i : Nat) (h : i < 23) : wrap64 (2 ^ i) = ((2 ^ i : Nat) : Int) := by
  have h1 : ((2 : Int) ^ i) = ((2 ^ i : Nat) : Int) := by simp
  have h2 := pow_le i h
  rw [h1]
  generalize 2 ^ i = X at *
  have h3 := IntKind.wrap_i64 (X : Int)
  unfold wrap64
  omega

set_option maxRecDepth 100000 in
set_option maxHeartbeats 1000000 in
theorem hist_Bucket (n : Int) (w : World) : Calls Try.prog 13 #[.int .i64 n] w fun e w' => e = .returned (.int .i64 (bkt n : Nat)) ∧ w = w' := by
  unfold bkt
  obtain ⟨N, hN⟩ : ∃ N, n.toNat = N := ⟨_, rfl⟩
  rw [hN]
  have hmax : max n 0 = (N : Int) := by omega
  have HM := Lib.hid hmax
  clear hN hmax
  go_enter Try.func13, Try.ntmps13
  go_wp2_with fail
  all_goals
    go_loop [0, 3] (fun v0 v3 => ∃ i y : Nat, v3 = .int .i64 i ∧ i ≤ 23 ∧ v0 = .int .i64 y ∧ y = N / 2 ^ i ∧ bk 23 N 0 = bk (23 - i) N i) (fun _ v3 => 23 - (intOf v3).toNat)
    case atStart => exact ⟨0, N, rfl, Nat.zero_le _, by have := HM.out; go_num, by simp, rfl⟩
    case round =>
      obtain ⟨i, y, rfl, hi, rfl, hy, hb⟩ := hrel
      by_cases h1 : 0 < y
      · by_cases h2 : i < 23
        · rw [bk_step N i h2] at hb
          have hp : 0 < 2 ^ i := Nat.two_pow_pos i
          have hlt : ¬ N < 2 ^ i := by
            intro h
            rw [Nat.div_eq_of_lt h] at hy
            omega
          rw [if_neg hlt] at hb
          have HB := Lib.hid hb
          have HY : Hid (y / 2 = N / 2 ^ (i + 1)) := Lib.hid (by rw [hy, Nat.pow_succ, Nat.div_div_eq_div_mul])
          have hs : y >>> 1 = y / 2 := rfl
          clear hb hy hlt hp
          go_wp2_with fail
          go_round
          case rel => exact ⟨i + 1, y / 2, by go_num, by omega, by go_num, HY.out, HB.out⟩
          case measure => simp [intOf]; omega
        · have he : i = 23 := by omega
          subst he
          have HB := Lib.hid hb
          clear hb hy
          go_wp2_with fail
          go_ret
          exact ⟨by rw [HB.out]; rfl, rfl⟩
      · have hlt : N < 2 ^ i := by
          have hp : 0 < 2 ^ i := Nat.two_pow_pos i
          rcases Nat.lt_or_ge N (2 ^ i) with h | h
          · exact h
          · have := Nat.div_pos h hp
            omega
        have HB : Hid (bk 23 N 0 = i) := Lib.hid (by
          rw [hb]
          by_cases h2 : i < 23
          · rw [bk_step N i h2, if_pos hlt]
          · have he : i = 23 := by omega
            subst he
            rfl)
        have hy0 : y = 0 := by omega
        subst hy0
        clear hb hy hlt
        go_wp2_with fail
        go_ret
        exact ⟨by rw [HB.out]; rfl, rfl⟩
set_option maxRecDepth 100000 in
set_option maxHeartbeats 1000000 in
theorem law44_bucket (n : Int) (w : World) : Calls Try.prog 15 #[.int .i64 n] w fun e w' => e = .returned (.int .i64 (bkt n : Nat)) ∧ w = w' := by
  unfold bkt
  go_enter Try.func15, Try.ntmps15
  go_wp2_with fail
  go_loop [3] (fun v3 => ∃ i : Nat, v3 = .int .i64 i ∧ i ≤ 23 ∧ bk 23 n.toNat 0 = bk (23 - i) n.toNat i) (fun v3 => 23 - (intOf v3).toNat)
  case atStart => exact ⟨0, rfl, Nat.zero_le _, rfl⟩
  case round =>
    obtain ⟨i, rfl, hi, hb⟩ := hrel
    by_cases h2 : i < 23
    · rw [bk_step _ i h2] at hb
      have hpw := pow_wrap i h2
      by_cases hlt : n.toNat < 2 ^ i
      · rw [if_pos hlt] at hb
        have HB := Lib.hid hb
        have hx : n < wrap64 (2 ^ i) := by rw [hpw]; omega
        clear hb hpw hlt
        go_wp2_with fail
        go_ret
        exact ⟨by rw [HB.out]; rfl, rfl⟩
      · rw [if_neg hlt] at hb
        have HB := Lib.hid hb
        have hx : wrap64 (2 ^ i) ≤ n := by rw [hpw]; have := Nat.two_pow_pos i; omega
        clear hb hpw hlt
        go_wp2_with fail
        go_round
        case rel => exact ⟨i + 1, by go_num, by omega, HB.out⟩
        case measure => simp [intOf]; omega
    · have he : i = 23 := by omega
      subst he
      have HB := Lib.hid hb
      clear hb
      go_wp2_with fail
      go_ret
      exact ⟨by rw [HB.out]; rfl, rfl⟩

/-- A bucket's bounds. -/
def bdLo (i : Int) : Int := if i < 0 ∨ 24 ≤ i then 0 else if i = 0 then 0 else 2 ^ (i.toNat - 1)
def bdHi (i : Int) : Int := if i < 0 ∨ 24 ≤ i then 0 else if i = 0 then 0 else if i = 23 then 1099511627776 else 2 ^ i.toNat - 1
def bdOk (i : Int) : Bool := decide (0 ≤ i ∧ i < 24)
set_option maxRecDepth 100000 in
set_option maxHeartbeats 1000000 in
theorem hist_Bounds (i : Int) (w : World) : Calls Try.prog 14 #[.int .i64 i] w fun e w' => e = .returned (.tuple #[.int .i64 (bdLo i), .int .i64 (bdHi i), .bool (bdOk i)]) ∧ Below w.heap.size w w' := by
  by_cases h0 : i < 0 ∨ 24 ≤ i
  · have h : Hid (bdLo i = 0 ∧ bdHi i = 0 ∧ bdOk i = false) := Lib.hid ⟨by unfold bdLo; rw [if_pos h0], by unfold bdHi; rw [if_pos h0], by unfold bdOk; simp; omega⟩
    rw [h.out.1, h.out.2.1, h.out.2.2]
    rcases h0 with h0 | h0
    all_goals
      go_enter Try.func14, Try.ntmps14
      go_wp2_with fail
      go_ret3
      exact ⟨rfl, Below.refl _ _⟩
  obtain ⟨k, rfl⟩ := Int.eq_ofNat_of_zero_le (show 0 ≤ i by omega)
  by_cases h1 : k = 0
  · subst h1
    go_enter Try.func14, Try.ntmps14
    go_wp2_with fail
    go_ret3
    exact ⟨rfl, Below.refl _ _⟩
  by_cases h2 : k = 23
  · subst h2
    go_enter Try.func14, Try.ntmps14
    go_wp2_with fail
    go_ret3
    exact ⟨rfl, Below.refl _ _⟩
  have hk : k < 23 := by omega
  have h : Hid (bdLo (k : Int) = ((2 ^ (k - 1) : Nat) : Int) ∧ bdHi (k : Int) = ((2 ^ k : Nat) : Int) - 1 ∧ bdOk (k : Int) = true) := Lib.hid ⟨by unfold bdLo; rw [if_neg h0, if_neg (by omega)]; simp, by unfold bdHi; rw [if_neg h0, if_neg (by omega), if_neg (by omega)]; simp, by unfold bdOk; simp; omega⟩
  have hd0 : ((k : Int) == 0) = false := by simp; omega
  have hd1 : ((k : Int) == 23) = false := by simp; omega
  have hp1 := pow_wrap k hk
  have hp2 := pow_wrap (k - 1) (by omega)
  have hl := pow_le k hk
  have ht : ((k : Int) - 1).toNat = k - 1 := by omega
  have hpos : 0 < 2 ^ k := Nat.two_pow_pos k
  have hp3 : wrap64 (2 ^ k - 1) = ((2 ^ k : Nat) : Int) - 1 := by
    have h1 : ((2 : Int) ^ k) = ((2 ^ k : Nat) : Int) := by simp
    rw [h1]
    generalize 2 ^ k = X at *
    have h3 := IntKind.wrap_i64 ((X : Int) - 1)
    unfold wrap64
    omega
  rw [h.out.1, h.out.2.1, h.out.2.2]
  have h4 : decide (24 ≤ (k : Int)) = false := by simp; omega
  clear h0 h1 h2
  go_enter Try.func14, Try.ntmps14
  go_upto_region 7 with fail
  go_quiet (fail)
  go_wp2_with fail
  go_ret3
  refine ⟨?_, below_drewN (Below.refl _ _) _⟩
  show Ending.returned (.tuple #[.int .i64 (wrap64 (2 ^ (k - 1))), .int .i64 (wrap64 (2 ^ k - 1)), .bool true]) = _
  rw [hp2, hp3]
end Go.Proofs.Ytfebncpfhdgkpaa
