/- Plain: the sums of a key's runes, and the bits of a key. No program is named here. -/
namespace Go.Proofs.Ytfebncpfhdgkpaa

def hA (a r : Nat) : Nat := (a ^^^ r) * 16777619 % 4294967296
def hBB (b r : Nat) : Nat := (b * 33 % 4294967296 + r) % 4294967296
def sumA (R : List Nat) : Nat := let a := R.foldl hA 2166136261; a ^^^ (a / 8192)
def sumB (R : List Nat) : Nat := (R.foldl hBB 5381) ||| 1
theorem foldl_hA_lt : ∀ (R : List Nat) (a : Nat), a < 4294967296 → R.foldl hA a < 4294967296
  | [], _, h => h
  | r :: R, a, _ => foldl_hA_lt R (hA a r) (Nat.mod_lt _ (by decide))
theorem foldl_hB_lt : ∀ (R : List Nat) (b : Nat), b < 4294967296 → R.foldl hBB b < 4294967296
  | [], _, h => h
  | r :: R, b, _ => foldl_hB_lt R (hBB b r) (Nat.mod_lt _ (by decide))
theorem sumA_lt (R : List Nat) : sumA R < 4294967296 := by
  have h := foldl_hA_lt R 2166136261 (by decide)
  unfold sumA
  exact Nat.xor_lt_two_pow (n := 32) h (Nat.lt_of_le_of_lt (Nat.div_le_self _ _) h)
theorem or_one (b : Nat) : b ||| 1 = if b % 2 = 0 then b + 1 else b := by
  have h0 : ∀ c : Nat, 2 * c ||| 1 = 2 * c + 1 := fun c => by
    have h := Nat.two_pow_add_eq_or_of_lt (i := 1) (b := 1) (by decide) c
    simpa using h.symm
  split
  · obtain ⟨c, rfl⟩ : ∃ c, b = 2 * c := ⟨b / 2, by omega⟩
    exact h0 c
  · obtain ⟨c, rfl⟩ : ∃ c, b = 2 * c + 1 := ⟨b / 2, by omega⟩
    rw [← h0 c, Nat.or_assoc, Nat.or_self]
theorem sumB_lt (R : List Nat) : sumB R < 4294967296 := by
  have h := foldl_hB_lt R 5381 (by decide)
  unfold sumB
  exact Nat.or_lt_two_pow (n := 32) h (by decide)
/-- The place of a key's bit number j, of so many. -/
def place (R : List Nat) (n j : Nat) : Nat := (sumA R + j * sumB R) % 4294967296 % n
theorem place_lt (R : List Nat) (n j : Nat) (h : 0 < n) : place R n j < n := Nat.mod_lt _ h
def places (R : List Nat) (n : Nat) : List Nat := [place R n 0, place R n 1, place R n 2, place R n 3]
end Go.Proofs.Ytfebncpfhdgkpaa
