/- Plain lemmas on numbers as bytes, seven bits a byte; no program is named here. -/
namespace Go.Proofs.YtedegdojbhegdaaDoor

/-- The bytes ahead of the last one, of a number. -/
def hi (n : Nat) : List UInt8 := if n = 0 then [] else hi (n / 128) ++ [UInt8.ofNat (128 + n % 128)]
theorem hi_zero : hi 0 = [] := by rw [hi, if_pos rfl]
theorem hi_pos (n : Nat) (h : n ≠ 0) : hi n = hi (n / 128) ++ [UInt8.ofNat (128 + n % 128)] := by rw [hi, if_neg h]
/-- A number's bytes. -/
def wput (n : Nat) : List UInt8 := hi (n / 128) ++ [UInt8.ofNat (n % 128)]
/-- The bytes of whichever number: of one below 0 those of 0. -/
def wputI (n : Int) : List UInt8 := wput n.toNat
theorem hi_length : ∀ (k n : Nat), n < 128 ^ k → (hi n).length ≤ k
  | 0, n, h => by have : n = 0 := by simpa using h
                  rw [this, hi_zero]; simp
  | k + 1, n, h => by
    by_cases h0 : n = 0
    · rw [h0, hi_zero]; simp
    · rw [hi_pos n h0]
      have := hi_length k (n / 128) (by rw [Nat.div_lt_iff_lt_mul (by decide)]; rw [Nat.pow_succ] at h; exact h)
      simp; omega
theorem wput_length (n : Nat) (h : n ≤ 9223372036854775807) : (wput n).length ≤ 9 := by
  have := hi_length 8 (n / 128) (by omega)
  unfold wput
  simp; omega
theorem wput_pos (n : Nat) : 0 < (wput n).length := by unfold wput; simp

def up (c : UInt8) : UInt8 := UInt8.ofNat (128 + c.toNat % 128)
theorem up_toNat (c : UInt8) : (up c).toNat = 128 + c.toNat % 128 := by unfold up; rw [UInt8.toNat_ofNat']; omega
theorem up_of (n : Nat) : up (UInt8.ofNat (n % 128)) = UInt8.ofNat (128 + n % 128) := by
  unfold up
  rw [UInt8.toNat_ofNat']
  congr 2
  omega
/-- Digits, the lowest first, as the bytes that are told. -/
def outs (L : List UInt8) : List UInt8 := (L.tail.map up).reverse ++ L.take 1
theorem outs_one (c : UInt8) : outs [c] = [c] := rfl
theorem outs_snoc (L : List UInt8) (c : UInt8) (h : L ≠ []) : outs (L ++ [c]) = up c :: outs L := by
  match L, h with
  | a :: r, _ => simp [outs]
theorem outs_drop (L : List UInt8) (k : Nat) (hk : k < L.length) : ((L.drop k).map up).reverse = ((L.drop (k + 1)).map up).reverse ++ [up L[k]] := by
  rw [List.drop_eq_getElem_cons hk, List.map_cons, List.reverse_cons]

/-- What is known while the digits are gathered: m is left, L are gathered. -/
def Gath (N m : Nat) (L : List UInt8) : Prop := m < 128 ^ (9 - L.length) ∧ L.length ≤ 8 ∧ (L = [] → m = N) ∧ (L ≠ [] → 0 < m ∧ wput N = hi m ++ outs L)
theorem gath_start (N : Nat) (h : N ≤ 9223372036854775807) : Gath N N [] := ⟨by simp; omega, by simp, fun _ => rfl, fun h => absurd rfl h⟩
theorem gath_step {N m : Nat} {L : List UInt8} (h : Gath N m L) : L.length + 1 ≤ 9 ∧ wput N = hi (m / 128) ++ outs (L ++ [UInt8.ofNat (m % 128)]) ∧ (0 < m / 128 → Gath N (m / 128) (L ++ [UInt8.ofNat (m % 128)])) := by
  obtain ⟨h1, h2, h3, h4⟩ := h
  have key : wput N = hi (m / 128) ++ outs (L ++ [UInt8.ofNat (m % 128)]) := by
    by_cases hL : L = []
    · rw [h3 hL, hL]
      rfl
    · obtain ⟨h5, h6⟩ := h4 hL
      rw [outs_snoc L _ hL, h6, hi_pos m (by omega), up_of]
      simp
  refine ⟨by omega, key, fun hp => ⟨?_, ?_, fun h => absurd h (by simp), fun _ => ⟨hp, key⟩⟩⟩
  · have e : 9 - L.length = (9 - (L.length + 1)) + 1 := by omega
    rw [e, Nat.pow_succ] at h1
    simp only [List.length_append, List.length_singleton]
    rw [Nat.div_lt_iff_lt_mul (by decide)]
    exact h1
  · simp only [List.length_append, List.length_singleton]
    rcases Nat.lt_or_ge L.length 8 with h | h
    · omega
    · have e : 9 - L.length = 1 := by omega
      rw [e] at h1
      omega
theorem gath_end {N m : Nat} {L : List UInt8} (h : Gath N m L) (h0 : ¬ 0 < m / 128) : wput N = outs (L ++ [UInt8.ofNat (m % 128)]) := by
  have h1 := (gath_step h).2.1
  have e : m / 128 = 0 := by omega
  rw [e, hi_zero] at h1
  simpa using h1
end Go.Proofs.YtedegdojbhegdaaDoor
