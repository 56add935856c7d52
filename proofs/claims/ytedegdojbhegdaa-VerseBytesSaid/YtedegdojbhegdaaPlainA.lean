/- Plain lemmas on decimal digits; no program is named here. -/
namespace Go.Proofs.Ytedegdojbhegdaa

def cut50 (n : Int) : Int := if n < 0 then 0 else if n > 1125899906842624 then 1125899906842624 else n
theorem cut50_range (n : Int) : 0 ≤ cut50 n ∧ cut50 n ≤ 1125899906842624 := by unfold cut50; omega
def add50 (a b : Int) : Int := cut50 (min (max a (-1125899906842624)) 1125899906842624 + min (max b (-1125899906842624)) 1125899906842624)

def dig (n : Nat) : UInt8 := UInt8.ofNat (48 + n % 10)
theorem dig_toNat (n : Nat) : (dig n).toNat = 48 + n % 10 := by
  unfold dig
  rw [UInt8.toNat_ofNat']
  omega

def dec (n : Nat) : List UInt8 := if n < 10 then [dig n] else dec (n / 10) ++ [dig n]
theorem dec_lo (n : Nat) (h : n < 10) : dec n = [dig n] := by rw [dec, if_pos h]
theorem dec_hi (n : Nat) (h : ¬ n < 10) : dec n = dec (n / 10) ++ [dig n] := by rw [dec, if_neg h]
theorem dec_length_pos (n : Nat) : 0 < (dec n).length := by
  by_cases h : n < 10
  · rw [dec_lo n h]; simp
  · rw [dec_hi n h]; simp
theorem dec_length_le : ∀ (k n : Nat), n < 10 ^ (k + 1) → (dec n).length ≤ k + 1
  | 0, n, h => by rw [dec_lo n (by simpa using h)]; simp
  | k + 1, n, h => by
    by_cases h10 : n < 10
    · rw [dec_lo n h10]; simp
    · rw [dec_hi n h10]
      have := dec_length_le k (n / 10) (by rw [Nat.div_lt_iff_lt_mul (by decide)]; rw [Nat.pow_succ] at h; exact h)
      simp; omega
theorem dec_length (n : Nat) (h : n ≤ 1125899906842624) : (dec n).length ≤ 16 := dec_length_le 15 n (by omega)
end Go.Proofs.Ytedegdojbhegdaa
