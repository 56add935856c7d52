/- Plain: a rune's bytes, out of a text and by encoding. No program is named here. -/
import Derived.Test.YtedegdojbhegdaaDoorRnP
import Derived.Lib.MapLaws
namespace Go.Proofs.YtedegdojbhegdaaDoor
open Go.Lib

theorem enc_is_rune (r : Nat) (h : r < 55296 ∨ (57343 < r ∧ r ≤ 1114111)) : enc r = encodeRune (r : Int) := by
  have hv : Utf8.valid (r : Int) = true := by
    unfold Utf8.valid
    simp
    omega
  unfold enc Utf8.encode
  simp only [hv, if_true, Int.toNat_natCast]
  unfold encodeRune
  by_cases h1 : r < 128
  · rw [if_pos h1, encodeRuneZ_one (by omega) (by omega)]
    simp [bl]
  · rw [if_neg h1]
    by_cases h2 : r < 2048
    · rw [if_pos h2, encodeRuneZ_two (by omega) (by omega)]
      simp only [bl, List.map_cons, List.map_nil, List.cons.injEq, and_true]
      exact ⟨by rw [show (192 + (r : Int) / 64).toNat = 192 + r / 64 by omega], by rw [show (128 + (r : Int) % 64).toNat = 128 + r % 64 by omega]⟩
    · rw [if_neg h2]
      by_cases h3 : r < 65536
      · rw [if_pos h3, encodeRuneZ_three (by omega)]
        simp only [bl, List.map_cons, List.map_nil, List.cons.injEq, and_true]
        exact ⟨by rw [show (224 + (r : Int) / 4096).toNat = 224 + r / 4096 by omega], by rw [show (128 + (r : Int) / 64 % 64).toNat = 128 + r / 64 % 64 by omega], by rw [show (128 + (r : Int) % 64).toNat = 128 + r % 64 by omega]⟩
      · rw [if_neg h3, encodeRuneZ_four (by omega) (by omega)]
        simp only [bl, List.map_cons, List.map_nil, List.cons.injEq, and_true]
        exact ⟨by rw [show (240 + (r : Int) / 262144).toNat = 240 + r / 262144 by omega], by rw [show (128 + (r : Int) / 4096 % 64).toNat = 128 + r / 4096 % 64 by omega], by rw [show (128 + (r : Int) / 64 % 64).toNat = 128 + r / 64 % 64 by omega], by rw [show (128 + (r : Int) % 64).toNat = 128 + r % 64 by omega]⟩
/-- A rune that is one, encoded, is the bytes that it was read from. -/
theorem enc_decode (s : ByteArray) (k : Nat) (hk : k < s.size) {r d : Nat} (hD : Utf8.decode s k = (r, d)) (hb : ¬ (r = 65533 ∧ d < 2)) : enc r = ((bl s).drop k).take d := by
  have hDL : decodeL ((bl s).drop k) = (r, d) := by
    rw [show bl s = s.data.toList from rfl, decodeL_drop, hD]
  have hne : (bl s).drop k ≠ [] := by
    intro e
    have := congrArg List.length e
    rw [List.length_drop, bl_length] at this
    simp at this
    omega
  have h := encode_decode ((bl s).drop k) hne (by rw [hDL]; intro h; exact hb ⟨h.1, by have := h.2; simp only at this; omega⟩)
  rw [hDL] at h
  rw [← h]
  refine enc_is_rune r ?_
  have hr := decodeN_shape (s.size - k) (s.get! k).toNat (s.get! (k + 1)).toNat (s.get! (k + 2)).toNat (s.get! (k + 3)).toNat
  rw [← decode_at, hD] at hr
  rcases hr with ⟨c, e⟩ | ⟨c1, c2, c3, cv, e⟩ | ⟨c1, c2, c3, c4, cv, cs, e⟩ | ⟨c1, c2, c3, c4, c5, cv, cw, e⟩ | e
  all_goals
    injection e with e1 e2
    subst e1
    omega
end Go.Proofs.YtedegdojbhegdaaDoor
