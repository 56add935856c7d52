/- Plain lemmas on decimal digits and the numbers that they are of; no program is named here. -/
import Derived.Test.YtimmfcbpdnlfjaaDoorNumsC
namespace Go.Proofs.YtimmfcbpdnlfjaaDoor

def isD (c : UInt8) : Bool := decide (48 ≤ c.toNat) && decide (c.toNat ≤ 57)
theorem isD_iff (c : UInt8) : isD c = true ↔ 48 ≤ c.toNat ∧ c.toNat ≤ 57 := by unfold isD; simp
def val (l : List UInt8) : Nat := l.foldl (fun n c => 10 * n + (c.toNat - 48)) 0
theorem val_snoc (l : List UInt8) (c : UInt8) : val (l ++ [c]) = 10 * val l + (c.toNat - 48) := by simp [val]
theorem isD_dig (n : Nat) : isD (dig n) = true := by rw [isD_iff, dig_toNat]; omega
theorem dig_of (n : Nat) (c : UInt8) (h : isD c = true) : dig (10 * n + (c.toNat - 48)) = c := by
  rw [isD_iff] at h
  apply UInt8.toNat_inj.1
  rw [dig_toNat]
  omega

theorem dec_facts : ∀ (k n : Nat), n < 10 ^ (k + 1) → val (dec n) = n ∧ (dec n).all isD = true ∧ ((dec n).length = 1 ∨ (dec n).head? ≠ some 48)
  | 0, n, h => by
    rw [dec_lo n (by simpa using h)]
    refine ⟨?_, by simp [isD_dig], .inl rfl⟩
    simp [val, dig_toNat]; omega
  | k + 1, n, h => by
    by_cases h10 : n < 10
    · rw [dec_lo n h10]
      refine ⟨?_, by simp [isD_dig], .inl rfl⟩
      simp [val, dig_toNat]; omega
    · obtain ⟨h1, h2, h3⟩ := dec_facts k (n / 10) (by rw [Nat.div_lt_iff_lt_mul (by decide)]; rw [Nat.pow_succ] at h; exact h)
      rw [dec_hi n h10]
      refine ⟨?_, ?_, .inr ?_⟩
      · rw [val_snoc, h1, dig_toNat]; omega
      · rw [List.all_append, h2]; simp [isD_dig]
      · have hp := dec_length_pos (n / 10)
        match hd : dec (n / 10), hp with
        | [c], _ =>
          have hlt : n / 10 < 10 := by
            rcases Nat.lt_or_ge (n / 10) 10 with h | h
            · exact h
            · have h5 := congrArg List.length hd
              rw [dec_hi _ (by omega)] at h5
              have h6 := dec_length_pos (n / 10 / 10)
              simp only [List.length_append, List.length_cons, List.length_nil] at h5; omega
          rw [dec_lo _ hlt] at hd
          injection hd with hd _
          rw [← hd]
          simp only [List.singleton_append, List.head?_cons, ne_eq, Option.some.injEq]
          intro he
          have := congrArg UInt8.toNat he
          rw [dig_toNat] at this
          simp at this
          omega
        | c :: d :: r, _ =>
          rw [hd] at h3
          simp at h3 ⊢
          exact h3
theorem dec_big (n : Nat) : val (dec n) = n ∧ (dec n).all isD = true ∧ ((dec n).length = 1 ∨ (dec n).head? ≠ some 48) :=
  dec_facts n n (Nat.lt_of_lt_of_le (Nat.lt_pow_self (by decide)) (Nat.pow_le_pow_right (by decide) (Nat.le_succ n)))

theorem exists_snoc : ∀ (l : List UInt8), l ≠ [] → ∃ i c, l = i ++ [c]
  | [], h => absurd rfl h
  | [a], _ => ⟨[], a, rfl⟩
  | a :: b :: r, _ => by
    obtain ⟨i, c, h⟩ := exists_snoc (b :: r) (by simp)
    exact ⟨a :: i, c, by rw [h]; rfl⟩

theorem dec_val : ∀ (k : Nat) (l : List UInt8), l.length = k → l ≠ [] → l.all isD = true → (l.length = 1 ∨ l.head? ≠ some 48) → dec (val l) = l
  | 0, l, h, hne, _, _ => absurd (List.eq_nil_of_length_eq_zero h) hne
  | k + 1, l, h, hne, hall, hh => by
    obtain ⟨i, c, rfl⟩ := exists_snoc l hne
    rw [List.all_append] at hall
    simp only [Bool.and_eq_true, List.all_cons, List.all_nil, and_true] at hall
    obtain ⟨hi, hc⟩ := hall
    have hc' := (isD_iff c).1 hc
    rw [val_snoc]
    by_cases hi0 : i = []
    · subst hi0
      rw [dec_lo _ (by simp [val]; omega), dig_of _ _ hc]; rfl
    · have hlen : 0 < i.length := List.length_pos_iff.2 hi0
      have hh' : i.head? ≠ some 48 := by
        rcases hh with h1 | h1
        · simp at h1; exact absurd h1 hi0
        · match i, hi0 with
          | a :: r, _ => simpa using h1
      have ih := dec_val k i (by simp at h; omega) hi0 hi (.inr hh')
      have hv : 0 < val i := by
        rcases Nat.eq_zero_or_pos (val i) with h0 | h0
        · rw [h0, dec_lo 0 (by decide)] at ih
          rw [← ih] at hh'
          exact absurd rfl hh'
        · exact h0
      rw [dec_hi _ (by omega), dig_of _ _ hc]
      have e : (10 * val i + (c.toNat - 48)) / 10 = val i := by omega
      rw [e, ih]

/-- The number of which these are the digits, if there is one, at most 2^50. -/
def rd (l : List UInt8) : Option Nat := if l.all isD = true ∧ dec (val l) = l ∧ val l ≤ 1125899906842624 then some (val l) else none

theorem rd_dec (n : Nat) (h : n ≤ 1125899906842624) : rd (dec n) = some n := by
  obtain ⟨h1, h2, _⟩ := dec_big n
  unfold rd
  rw [h1, if_pos ⟨h2, rfl, h⟩]
theorem rd_some {l : List UInt8} {n : Nat} (h : rd l = some n) : l.all isD = true ∧ dec n = l ∧ n ≤ 1125899906842624 ∧ val l = n := by
  unfold rd at h
  split at h
  · rename_i hh
    injection h with h
    subst h
    exact ⟨hh.1, hh.2.1, hh.2.2, rfl⟩
  · cases h
theorem rd_nil : rd [] = none := by
  cases h : rd [] with
  | none => rfl
  | some n =>
    have h1 := (rd_some h).2.1
    have := dec_length_pos n
    rw [h1] at this
    simp at this
theorem rd_long {l : List UInt8} (h : 16 < l.length) : rd l = none := by
  cases hr : rd l with
  | none => rfl
  | some n =>
    obtain ⟨_, h1, h2, _⟩ := rd_some hr
    have := dec_length n h2
    rw [h1] at this
    omega
theorem rd_nought {l : List UInt8} (h : 1 < l.length) (h0 : l.head? = some 48) : rd l = none := by
  cases hr : rd l with
  | none => rfl
  | some n =>
    obtain ⟨_, h1, h2, _⟩ := rd_some hr
    have := (dec_big n).2.2
    rw [h1] at this
    rcases this with h3 | h3
    · omega
    · exact absurd h0 h3
theorem rd_other {l : List UInt8} (h : l.all isD = false) : rd l = none := by
  unfold rd
  rw [if_neg]
  rintro ⟨h1, _⟩
  rw [h] at h1
  cases h1
theorem rd_great {l : List UInt8} (h : 1125899906842624 < val l) : rd l = none := by
  unfold rd
  rw [if_neg]
  rintro ⟨_, _, h1⟩
  omega
theorem rd_yes {l : List UInt8} (hne : l ≠ []) (hall : l.all isD = true) (hh : l.length = 1 ∨ l.head? ≠ some 48) (hv : val l ≤ 1125899906842624) : rd l = some (val l) := by
  unfold rd
  rw [if_pos ⟨hall, dec_val _ l rfl hne hall hh, hv⟩]

theorem val_lt : ∀ (k : Nat) (l : List UInt8), l.length = k → l.all isD = true → val l < 10 ^ k
  | 0, l, h, _ => by rw [List.eq_nil_of_length_eq_zero h]; decide
  | k + 1, l, h, hall => by
    obtain ⟨i, c, rfl⟩ := exists_snoc l (by intro h0; subst h0; cases h)
    rw [List.all_append] at hall
    simp only [Bool.and_eq_true, List.all_cons, List.all_nil, and_true] at hall
    have ih := val_lt k i (by simp at h; omega) hall.1
    have hc := (isD_iff c).1 hall.2
    rw [val_snoc, Nat.pow_succ]
    omega
end Go.Proofs.YtimmfcbpdnlfjaaDoor
