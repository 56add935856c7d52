/- Plain: what a reader of bytes reads; no program is named here. -/
import Derived.Test.YtfkooohnaodjmaaWireB
namespace Go.Proofs.Ytfkooohnaodjmaa

/-- The number that begins bytes, i bytes and the value n being read ahead of them: the number, how many bytes it takes in all, the fault. -/
def rnumF : List UInt8 → Nat → Nat → Nat × Nat × Int
  | [], _, _ => (0, 0, 30)
  | b :: r, i, n => if (i = 0 ∧ b.toNat = 128) ∨ 36028797018963968 ≤ n then (0, 0, 31) else if b.toNat < 128 then (n * 128 + b.toNat, i + 1, 0) else rnumF r (i + 1) (n * 128 + b.toNat % 128)
def rnum (l : List UInt8) : Nat × Nat × Int := rnumF l 0 0
/-- What a reader's Num tells, with a fault so far. -/
def rNum (l : List UInt8) (why : Int) : Nat × Nat × Int := if why = 0 then rnum l else (0, 0, why)
def rCount (l : List UInt8) (most : Int) (why : Int) : Nat × Nat × Int :=
  if (rNum l why).2.2 = 0 ∧ most < (rNum l why).1 then (0, 0, 31) else rNum l why
def rText (l : List UInt8) (most : Int) (why : Int) : List UInt8 × Nat × Int :=
  if (rNum l why).2.2 ≠ 0 then ([], 0, (rNum l why).2.2)
  else if most < (rNum l why).1 then ([], 0, 31)
  else if l.length - (rNum l why).2.1 < (rNum l why).1 then ([], 0, 30)
  else ((l.drop (rNum l why).2.1).take (rNum l why).1, (rNum l why).2.1 + (rNum l why).1, 0)

theorem rnumF_facts : ∀ (l : List UInt8) (i n : Nat), (rnumF l i n).1 < 4611686018427387904 ∧ (rnumF l i n).2.1 ≤ i + l.length ∧ ((rnumF l i n).2.2 = 0 ∨ (rnumF l i n).2.2 = 30 ∨ (rnumF l i n).2.2 = 31) ∧
    ((rnumF l i n).2.2 ≠ 0 → (rnumF l i n).1 = 0 ∧ (rnumF l i n).2.1 = 0) ∧ ((rnumF l i n).2.2 = 0 → i < (rnumF l i n).2.1)
  | [], i, n => by simp [rnumF]
  | b :: r, i, n => by
    unfold rnumF
    split
    · simp
    · rename_i h
      split
      · rename_i h2
        have h3 : n < 36028797018963968 := by omega
        refine ⟨?_, ?_, ?_, ?_, ?_⟩ <;> simp <;> omega
      · obtain ⟨h1, h2, h3, h4, h5⟩ := rnumF_facts r (i + 1) (n * 128 + b.toNat % 128)
        exact ⟨h1, by simp; omega, h3, h4, fun h => by have := h5 h; omega⟩
theorem rNum_facts (l : List UInt8) (why : Int) : (rNum l why).1 < 4611686018427387904 ∧ (rNum l why).2.1 ≤ l.length ∧ ((rNum l why).2.2 ≠ 0 → (rNum l why).1 = 0 ∧ (rNum l why).2.1 = 0) := by
  unfold rNum
  split
  · obtain ⟨h1, h2, _, h4, _⟩ := rnumF_facts l 0 0
    exact ⟨h1, by unfold rnum; omega, h4⟩
  · simp
theorem rnumF_cons (b : UInt8) (r : List UInt8) (i n : Nat) : rnumF (b :: r) i n = if (i = 0 ∧ b.toNat = 128) ∨ 36028797018963968 ≤ n then (0, 0, 31) else if b.toNat < 128 then (n * 128 + b.toNat, i + 1, 0) else rnumF r (i + 1) (n * 128 + b.toNat % 128) := rfl

theorem ofNat_toNat_lt {n : Nat} (h : n < 256) : (UInt8.ofNat n).toNat = n := by rw [UInt8.toNat_ofNat']; omega

/-- The high bytes of m, read behind nothing, and then the rest. -/
theorem rnumF_hi : ∀ (k m : Nat) (r : List UInt8), m < 128 ^ k → 0 < m → m < 36028797018963968 →
    rnumF (hi m ++ r) 0 0 = rnumF r (hi m).length m ∧ 0 < (hi m).length
  | 0, m, r, h, h0, _ => by simp at h; omega
  | k + 1, m, r, h, h0, h55 => by
    rw [hi_pos m (by omega), List.append_assoc]
    by_cases hq : m / 128 = 0
    · rw [hq, hi_zero]
      simp only [List.nil_append, List.singleton_append, List.length_singleton]
      have e : (UInt8.ofNat (128 + m % 128)).toNat = 128 + m % 128 := ofNat_toNat_lt (by omega)
      rw [rnumF_cons, e, if_neg (by omega), if_neg (by omega)]
      refine ⟨?_, by omega⟩
      congr 1
      omega
    · obtain ⟨h1, h2⟩ := rnumF_hi k (m / 128) ([UInt8.ofNat (128 + m % 128)] ++ r) (by rw [Nat.div_lt_iff_lt_mul (by decide)]; rw [Nat.pow_succ] at h; exact h) (by omega) (by omega)
      rw [h1]
      have e : (UInt8.ofNat (128 + m % 128)).toNat = 128 + m % 128 := ofNat_toNat_lt (by omega)
      simp only [List.singleton_append, List.length_append, List.length_singleton]
      rw [rnumF_cons, e, if_neg (by omega), if_neg (by omega)]
      refine ⟨?_, by omega⟩
      congr 1
      omega
/-- A number that was put is read as it was, whatever stands behind it. -/
theorem rnum_wput (n : Nat) (r : List UInt8) (h : n < 4611686018427387904) : rnum (wput n ++ r) = (n, (wput n).length, 0) := by
  unfold rnum wput
  have e : (UInt8.ofNat (n % 128)).toNat = n % 128 := ofNat_toNat_lt (by omega)
  rw [List.append_assoc]
  by_cases hq : n / 128 = 0
  · rw [hq, hi_zero]
    simp only [List.nil_append, List.singleton_append, List.length_singleton]
    rw [rnumF_cons, e, if_neg (by omega), if_pos (by omega)]
    congr 1
    omega
  · obtain ⟨h1, h2⟩ := rnumF_hi 9 (n / 128) ([UInt8.ofNat (n % 128)] ++ r) (by omega) (by omega) (by omega)
    rw [h1]
    simp only [List.singleton_append, List.length_append, List.length_singleton]
    rw [rnumF_cons, e, if_neg (by omega), if_pos (by omega)]
    congr 1
    omega
theorem rNum_wput (n : Nat) (r : List UInt8) (h : n < 4611686018427387904) : rNum (wput n ++ r) 0 = (n, (wput n).length, 0) := by
  unfold rNum
  rw [if_pos rfl, rnum_wput n r h]
/-- A text that was put is read as it was. -/
theorem rText_put (l r : List UInt8) (most : Int) (h : l.length < 4611686018427387904) (hm : (l.length : Int) ≤ most) : rText (wput l.length ++ (l ++ r)) most 0 = (l, (wput l.length).length + l.length, 0) := by
  unfold rText
  rw [rNum_wput _ _ h]
  simp only [ne_eq, not_true_eq_false, if_false]
  rw [if_neg (by omega), if_neg (by simp)]
  simp
end Go.Proofs.Ytfkooohnaodjmaa
