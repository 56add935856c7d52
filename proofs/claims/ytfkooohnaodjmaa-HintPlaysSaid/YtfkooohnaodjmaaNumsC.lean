/- Plain lemmas on decimal digits; no program is named here. Contracts of nums.Add, nums.Text and of the references' Cut and Text: what they compute; what was there ahead of the call stands. No condition. A number's text. Contract of the reference's Cut. Contract of the reference's Text: the digits; the world as it was. No condition. Contracts of nums.Stamp and of the reference's Stamp. No condition. -/
import Derived.Test.YtfkooohnaodjmaaWords
namespace Go.Proofs.Ytfkooohnaodjmaa

def cut50 (n : Int) : Int := if n < 0 then 0 else if n > 1125899906842624 then 1125899906842624 else n
theorem cut50_range (n : Int) : 0 ≤ cut50 n ∧ cut50 n ≤ 1125899906842624 := by unfold cut50; omega
def add50 (a b : Int) : Int := cut50 (min (max a (-1125899906842624)) 1125899906842624 + min (max b (-1125899906842624)) 1125899906842624)

def dig (n : Nat) : UInt8 := UInt8.ofNat (48 + n % 10)
theorem dig_toNat (n : Nat) : (dig n).toNat = 48 + n % 10 := by
  unfold dig
  rw [UInt8.toNat_ofNat']
  omega

def dec (n : Nat) : List UInt8 := if n < 10 then [dig n] else dec (n / 10) ++ [dig n]
theorem dec_lo (n : Nat) (h : n < 10) : dec n = [dig n] := by rw [dec, if_pos h]
theorem dec_hi (n : Nat) (h : ¬ n < 10) : dec n = dec (n / 10) ++ [dig n] := by rw [dec, if_neg h]
theorem dec_length_pos (n : Nat) : 0 < (dec n).length := by
  by_cases h : n < 10
  · rw [dec_lo n h]; simp
  · rw [dec_hi n h]; simp
theorem dec_length_le : ∀ (k n : Nat), n < 10 ^ (k + 1) → (dec n).length ≤ k + 1
  | 0, n, h => by rw [dec_lo n (by simpa using h)]; simp
  | k + 1, n, h => by
    by_cases h10 : n < 10
    · rw [dec_lo n h10]; simp
    · rw [dec_hi n h10]
      have := dec_length_le k (n / 10) (by rw [Nat.div_lt_iff_lt_mul (by decide)]; rw [Nat.pow_succ] at h; exact h)
      simp; omega
theorem dec_length (n : Nat) (h : n ≤ 1125899906842624) : (dec n).length ≤ 16 := dec_length_le 15 n (by omega)
end Go.Proofs.Ytfkooohnaodjmaa

namespace Go.Proofs.Ytfkooohnaodjmaa
open Go.RowKit

theorem drop_set_pred (arr : Array Value) (p : Nat) (u : Value) (h : 0 < p) (hs : p ≤ arr.size) : (arr.setIfInBounds (p - 1) u).toList.drop (p - 1) = u :: arr.toList.drop p := by
  have e : p - 1 + 1 = p := by omega
  rw [Array.toList_setIfInBounds, List.drop_eq_getElem_cons (by simp; omega), e, List.getElem_set_self, List.drop_set_of_lt (by omega)]

end Go.Proofs.Ytfkooohnaodjmaa

namespace Go.Proofs.Ytfkooohnaodjmaa
open Go.RowKit

def num (n : Int) : List UInt8 := dec (cut50 n).toNat
theorem num_length (n : Int) : (num n).length ≤ 16 := dec_length _ (by have := cut50_range n; omega)
end Go.Proofs.Ytfkooohnaodjmaa

namespace Go.Proofs.Ytfkooohnaodjmaa
open Go.RowKit

end Go.Proofs.Ytfkooohnaodjmaa

namespace Go.Proofs.Ytfkooohnaodjmaa
open Go.RowKit

def pre (m : Nat) : List UInt8 := if m < 10 then [] else dec (m / 10)
theorem dec_pre (m : Nat) : dec m = pre m ++ [dig m] := by
  unfold pre
  by_cases h : m < 10
  · rw [dec_lo m h, if_pos h]; rfl
  · rw [dec_hi m h, if_neg h]

def Text2Rel (N : Nat) (v0 v3 : Value) : Prop :=
  ∃ (m : Nat) (l : List UInt8), v0 = .int .i64 m ∧ v3 = .string ⟨l.toArray⟩ ∧ pre m ++ l = dec N ∧ m ≤ 1125899906842624

theorem digits_cut (m : Nat) (w : World) : (Instr.slice 9 (.string ⟨#[48, 49, 50, 51, 52, 53, 54, 55, 56, 57]⟩) (some (.int .i64 ((m : Int) % 10))) (some (.int .i64 ((m : Int) % 10 + 1))) none).run Try.prog w = .ok (.string ⟨[dig m].toArray⟩) w := by
  rw [run_slice_string w _ _ _ _ _ _ Try.underlying9 (by omega) (by omega) (by simp only [ByteArray.size]; simp; omega)]
  have e : dig m = dig (m % 10) := by unfold dig; rw [Nat.mod_mod]
  have hlt : m % 10 < 10 := Nat.mod_lt _ (by decide)
  have e1 : ((m : Int) % 10).toNat = m % 10 := by omega
  have e2 : ((m : Int) % 10 + 1).toNat = m % 10 + 1 := by omega
  rw [e1, e2, e]
  generalize m % 10 = d at hlt
  match d, hlt with
  | 0, _ => rfl
  | 1, _ => rfl
  | 2, _ => rfl
  | 3, _ => rfl
  | 4, _ => rfl
  | 5, _ => rfl
  | 6, _ => rfl
  | 7, _ => rfl
  | 8, _ => rfl
  | 9, _ => rfl
theorem digits_cut10 (m : Nat) (w : World) : (Instr.slice 9 (.string ⟨#[48, 49, 50, 51, 52, 53, 54, 55, 56, 57]⟩) (some (.int .i64 ((m : Int) / 10 % 10))) (some (.int .i64 ((m : Int) / 10 % 10 + 1))) none).run Try.prog w = .ok (.string ⟨[dig (m / 10)].toArray⟩) w := by
  have h := digits_cut (m / 10) w
  simpa using h

theorem text2_step {N m : Nat} {l : List UInt8} (hp : pre m ++ l = dec N) (hm : m ≤ 1125899906842624) (h10 : ¬ m < 10) : Text2Rel N (.int .i64 ((m : Int) / 10)) (.string (⟨[dig (m / 10)].toArray⟩ ++ ⟨l.toArray⟩)) := by
  refine ⟨m / 10, dig (m / 10) :: l, by go_num, ?_, ?_, by omega⟩
  · rw [ByteArray.mk_append_mk]; rfl
  · rw [← hp]
    unfold pre
    rw [if_neg h10]
    by_cases h : m / 10 < 10
    · rw [if_pos h, dec_lo _ h]; rfl
    · rw [if_neg h, dec_hi _ h]; simp

end Go.Proofs.Ytfkooohnaodjmaa

namespace Go.Proofs.Ytfkooohnaodjmaa
open Go.RowKit Go.Sort

/-- A number's digits. -/
def stampText (p l q : Int) : List UInt8 := num p ++ [46] ++ num l ++ [46] ++ num q

end Go.Proofs.Ytfkooohnaodjmaa
