/- Plain: a row of bits as bytes. No program is named here. -/
import Derived.Test.YtfebncpfhdgkpaaPlainV
namespace Go.Proofs.Ytfebncpfhdgkpaa

def bw (b : Bool) (x : Nat) : Nat := if b then x else 0
def n8 (b0 b1 b2 b3 b4 b5 b6 b7 : Bool) : Nat := bw b0 1 + bw b1 2 + bw b2 4 + bw b3 8 + bw b4 16 + bw b5 32 + bw b6 64 + bw b7 128
/-- The byte number k of a row of bits. -/
def nb (m : List Bool) (k : Nat) : Nat := n8 (m.getD (8 * k) false) (m.getD (8 * k + 1) false) (m.getD (8 * k + 2) false) (m.getD (8 * k + 3) false) (m.getD (8 * k + 4) false) (m.getD (8 * k + 5) false) (m.getD (8 * k + 6) false) (m.getD (8 * k + 7) false)
theorem nb_lt (m : List Bool) (k : Nat) : nb m k < 256 := by
  unfold nb
  have h : ∀ b0 b1 b2 b3 b4 b5 b6 b7 : Bool, n8 b0 b1 b2 b3 b4 b5 b6 b7 < 256 := by decide
  exact h _ _ _ _ _ _ _ _
def pk (m : List Bool) : List UInt8 := (List.range (m.length / 8)).map fun k => UInt8.ofNat (nb m k)
theorem pk_len (m : List Bool) : (pk m).length = m.length / 8 := by simp [pk]
theorem pk_get (m : List Bool) (k : Nat) (hk : k < m.length / 8) : (pk m)[k]? = some (UInt8.ofNat (nb m k)) := by simp [pk, hk]
theorem getD_set (m : List Bool) (p i : Nat) (hp : p < m.length) : (m.set p true).getD i false = if i = p then true else m.getD i false := by
  rw [List.getD_eq_getElem?_getD, List.getD_eq_getElem?_getD, List.getElem?_set]
  by_cases h : p = i
  · subst h
    simp [hp]
  · rw [if_neg h, if_neg (fun e => h e.symm)]
theorem n8_or : ∀ b0 b1 b2 b3 b4 b5 b6 b7 : Bool, n8 true b1 b2 b3 b4 b5 b6 b7 = n8 b0 b1 b2 b3 b4 b5 b6 b7 ||| 1 ∧ n8 b0 true b2 b3 b4 b5 b6 b7 = n8 b0 b1 b2 b3 b4 b5 b6 b7 ||| 2 ∧ n8 b0 b1 true b3 b4 b5 b6 b7 = n8 b0 b1 b2 b3 b4 b5 b6 b7 ||| 4 ∧
    n8 b0 b1 b2 true b4 b5 b6 b7 = n8 b0 b1 b2 b3 b4 b5 b6 b7 ||| 8 ∧ n8 b0 b1 b2 b3 true b5 b6 b7 = n8 b0 b1 b2 b3 b4 b5 b6 b7 ||| 16 ∧ n8 b0 b1 b2 b3 b4 true b6 b7 = n8 b0 b1 b2 b3 b4 b5 b6 b7 ||| 32 ∧
    n8 b0 b1 b2 b3 b4 b5 true b7 = n8 b0 b1 b2 b3 b4 b5 b6 b7 ||| 64 ∧ n8 b0 b1 b2 b3 b4 b5 b6 true = n8 b0 b1 b2 b3 b4 b5 b6 b7 ||| 128 := by decide +kernel
theorem n8_bit : ∀ b0 b1 b2 b3 b4 b5 b6 b7 : Bool, n8 b0 b1 b2 b3 b4 b5 b6 b7 % 2 = bw b0 1 ∧ n8 b0 b1 b2 b3 b4 b5 b6 b7 / 2 % 2 = bw b1 1 ∧ n8 b0 b1 b2 b3 b4 b5 b6 b7 / 4 % 2 = bw b2 1 ∧ n8 b0 b1 b2 b3 b4 b5 b6 b7 / 8 % 2 = bw b3 1 ∧
    n8 b0 b1 b2 b3 b4 b5 b6 b7 / 16 % 2 = bw b4 1 ∧ n8 b0 b1 b2 b3 b4 b5 b6 b7 / 32 % 2 = bw b5 1 ∧ n8 b0 b1 b2 b3 b4 b5 b6 b7 / 64 % 2 = bw b6 1 ∧ n8 b0 b1 b2 b3 b4 b5 b6 b7 / 128 % 2 = bw b7 1 := by decide +kernel
theorem nb_set (m : List Bool) (p : Nat) (hp : p < m.length) : nb (m.set p true) (p / 8) = nb m (p / 8) ||| 2 ^ (p % 8) := by
  have h8 : p % 8 < 8 := Nat.mod_lt _ (by decide)
  have hp8 : p = 8 * (p / 8) + p % 8 := by omega
  unfold nb
  rw [getD_set _ _ _ hp, getD_set _ _ _ hp, getD_set _ _ _ hp, getD_set _ _ _ hp, getD_set _ _ _ hp, getD_set _ _ _ hp, getD_set _ _ _ hp, getD_set _ _ _ hp]
  generalize p / 8 = k at *
  generalize p % 8 = j at *
  subst hp8
  obtain ⟨c0, c1, c2, c3, c4, c5, c6, c7⟩ := n8_or (m.getD (8 * k) false) (m.getD (8 * k + 1) false) (m.getD (8 * k + 2) false) (m.getD (8 * k + 3) false) (m.getD (8 * k + 4) false) (m.getD (8 * k + 5) false) (m.getD (8 * k + 6) false) (m.getD (8 * k + 7) false)
  match j, h8 with
  | 0, _ => simpa using c0
  | 1, _ => simpa using c1
  | 2, _ => simpa using c2
  | 3, _ => simpa using c3
  | 4, _ => simpa using c4
  | 5, _ => simpa using c5
  | 6, _ => simpa using c6
  | 7, _ => simpa using c7
theorem nb_set_other (m : List Bool) (p k : Nat) (hp : p < m.length) (hk : k ≠ p / 8) : nb (m.set p true) k = nb m k := by
  unfold nb
  rw [getD_set _ _ _ hp, getD_set _ _ _ hp, getD_set _ _ _ hp, getD_set _ _ _ hp, getD_set _ _ _ hp, getD_set _ _ _ hp, getD_set _ _ _ hp, getD_set _ _ _ hp]
  rw [if_neg (by omega), if_neg (by omega), if_neg (by omega), if_neg (by omega), if_neg (by omega), if_neg (by omega), if_neg (by omega), if_neg (by omega)]
theorem pk_set (m : List Bool) (p : Nat) (hp : p < m.length) : pk (m.set p true) = (pk m).set (p / 8) (UInt8.ofNat (nb m (p / 8) ||| 2 ^ (p % 8))) := by
  apply List.ext_getElem?
  intro k
  rw [List.getElem?_set, pk_len]
  by_cases hk : k < m.length / 8
  · rw [pk_get _ _ (by rw [List.length_set]; exact hk)]
    by_cases he : p / 8 = k
    · subst he
      rw [if_pos rfl, if_pos hk, nb_set m p hp]
    · rw [if_neg he, pk_get _ _ hk, nb_set_other m p k hp (fun e => he e.symm)]
  · have h1 : (pk (m.set p true))[k]? = none := List.getElem?_eq_none (by rw [pk_len, List.length_set]; omega)
    have h2 : (pk m)[k]? = none := List.getElem?_eq_none (by rw [pk_len]; omega)
    rw [h1, h2]
    split <;> simp_all
/-- A bit of a byte. -/
theorem nb_bit (m : List Bool) (p : Nat) : nb m (p / 8) / 2 ^ (p % 8) % 2 = bw (m.getD p false) 1 := by
  have h8 : p % 8 < 8 := Nat.mod_lt _ (by decide)
  have hp8 : p = 8 * (p / 8) + p % 8 := by omega
  unfold nb
  generalize p / 8 = k at *
  generalize p % 8 = j at *
  subst hp8
  obtain ⟨c0, c1, c2, c3, c4, c5, c6, c7⟩ := n8_bit (m.getD (8 * k) false) (m.getD (8 * k + 1) false) (m.getD (8 * k + 2) false) (m.getD (8 * k + 3) false) (m.getD (8 * k + 4) false) (m.getD (8 * k + 5) false) (m.getD (8 * k + 6) false) (m.getD (8 * k + 7) false)
  match j, h8 with
  | 0, _ => simpa using c0
  | 1, _ => simpa using c1
  | 2, _ => simpa using c2
  | 3, _ => simpa using c3
  | 4, _ => simpa using c4
  | 5, _ => simpa using c5
  | 6, _ => simpa using c6
  | 7, _ => simpa using c7
end Go.Proofs.Ytfebncpfhdgkpaa
