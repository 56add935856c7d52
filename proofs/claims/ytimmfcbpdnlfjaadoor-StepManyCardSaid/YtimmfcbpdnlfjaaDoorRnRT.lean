/- Plain: a rune's bytes, out of a text and by encoding. No program is named here. Plain: runes encoded and read back. No program is named here. -/
import Derived.Test.YtimmfcbpdnlfjaaDoorRnD
import Derived.Lib.MapLaws
import Derived.Test.YtimmfcbpdnlfjaaDoorRnK
namespace Go.Proofs.YtimmfcbpdnlfjaaDoor
open Go.Lib

theorem enc_is_rune (r : Nat) (h : r < 55296 ∨ (57343 < r ∧ r ≤ 1114111)) : enc r = encodeRune (r : Int) := by
  have hv : Utf8.valid (r : Int) = true := by
    unfold Utf8.valid
    simp
    omega
  unfold enc Utf8.encode
  simp only [hv, if_true, Int.toNat_natCast]
  unfold encodeRune
  by_cases h1 : r < 128
  · rw [if_pos h1, encodeRuneZ_one (by omega) (by omega)]
    simp [bl]
  · rw [if_neg h1]
    by_cases h2 : r < 2048
    · rw [if_pos h2, encodeRuneZ_two (by omega) (by omega)]
      simp only [bl, List.map_cons, List.map_nil, List.cons.injEq, and_true]
      exact ⟨by rw [show (192 + (r : Int) / 64).toNat = 192 + r / 64 by omega], by rw [show (128 + (r : Int) % 64).toNat = 128 + r % 64 by omega]⟩
    · rw [if_neg h2]
      by_cases h3 : r < 65536
      · rw [if_pos h3, encodeRuneZ_three (by omega)]
        simp only [bl, List.map_cons, List.map_nil, List.cons.injEq, and_true]
        exact ⟨by rw [show (224 + (r : Int) / 4096).toNat = 224 + r / 4096 by omega], by rw [show (128 + (r : Int) / 64 % 64).toNat = 128 + r / 64 % 64 by omega], by rw [show (128 + (r : Int) % 64).toNat = 128 + r % 64 by omega]⟩
      · rw [if_neg h3, encodeRuneZ_four (by omega) (by omega)]
        simp only [bl, List.map_cons, List.map_nil, List.cons.injEq, and_true]
        exact ⟨by rw [show (240 + (r : Int) / 262144).toNat = 240 + r / 262144 by omega], by rw [show (128 + (r : Int) / 4096 % 64).toNat = 128 + r / 4096 % 64 by omega], by rw [show (128 + (r : Int) / 64 % 64).toNat = 128 + r / 64 % 64 by omega], by rw [show (128 + (r : Int) % 64).toNat = 128 + r % 64 by omega]⟩
/-- A rune that is one, encoded, is the bytes that it was read from. -/
theorem enc_decode (s : ByteArray) (k : Nat) (hk : k < s.size) {r d : Nat} (hD : Utf8.decode s k = (r, d)) (hb : ¬ (r = 65533 ∧ d < 2)) : enc r = ((bl s).drop k).take d := by
  have hDL : decodeL ((bl s).drop k) = (r, d) := by
    rw [show bl s = s.data.toList from rfl, decodeL_drop, hD]
  have hne : (bl s).drop k ≠ [] := by
    intro e
    have := congrArg List.length e
    rw [List.length_drop, bl_length] at this
    simp at this
    omega
  have h := encode_decode ((bl s).drop k) hne (by rw [hDL]; intro h; exact hb ⟨h.1, by have := h.2; simp only at this; omega⟩)
  rw [hDL] at h
  rw [← h]
  refine enc_is_rune r ?_
  have hr := decodeN_shape (s.size - k) (s.get! k).toNat (s.get! (k + 1)).toNat (s.get! (k + 2)).toNat (s.get! (k + 3)).toNat
  rw [← decode_at, hD] at hr
  rcases hr with ⟨c, e⟩ | ⟨c1, c2, c3, cv, e⟩ | ⟨c1, c2, c3, c4, cv, cs, e⟩ | ⟨c1, c2, c3, c4, c5, cv, cw, e⟩ | e
  all_goals
    injection e with e1 e2
    subst e1
    omega
end Go.Proofs.YtimmfcbpdnlfjaaDoor

namespace Go.Proofs.YtimmfcbpdnlfjaaDoor
open Go.Lib

/-- A rune that has bytes of its own. -/
def Sc (r : Nat) : Prop := r < 55296 ∨ (57343 < r ∧ r ≤ 1114111)
theorem dec_sc (s : ByteArray) (k : Nat) {r d : Nat} (hD : Utf8.decode s k = (r, d)) : Sc r := by
  have hr := decodeN_shape (s.size - k) (s.get! k).toNat (s.get! (k + 1)).toNat (s.get! (k + 2)).toNat (s.get! (k + 3)).toNat
  rw [← decode_at, hD] at hr
  unfold Sc
  rcases hr with ⟨c, e⟩ | ⟨c1, c2, c3, cv, e⟩ | ⟨c1, c2, c3, c4, cv, cs, e⟩ | ⟨c1, c2, c3, c4, c5, cv, cw, e⟩ | e
  all_goals
    injection e with e1 e2
    subst e1
    omega
theorem pns_sc (s : ByteArray) : ∀ (f k : Nat), ∀ p ∈ pns s f k, Sc p.1
  | 0, k, p, h => by cases h
  | f + 1, k, p, h => by
    rw [pns] at h
    by_cases hk : k < s.size
    · rw [if_pos hk] at h
      rcases List.mem_cons.1 h with rfl | h
      · exact dec_sc s k rfl
      · exact pns_sc s f _ p h
    · rw [if_neg hk] at h
      cases h
theorem prs_sc (s : ByteArray) (k : Nat) : ∀ p ∈ prs s k, Sc p.1 := pns_sc s _ k
theorem rest_sc (s : ByteArray) (k : Nat) : ∀ r ∈ rest s k, Sc r := by
  rw [rest_prs]
  intro r hr
  obtain ⟨p, hp, rfl⟩ := List.mem_map.1 hr
  exact prs_sc s k p hp

theorem enc_forms (r : Nat) (h : Sc r) : (r < 128 ∧ enc r = [UInt8.ofNat r]) ∨ (128 ≤ r ∧ r < 2048 ∧ enc r = [UInt8.ofNat (192 + r / 64), UInt8.ofNat (128 + r % 64)]) ∨
    (2048 ≤ r ∧ r < 65536 ∧ enc r = [UInt8.ofNat (224 + r / 4096), UInt8.ofNat (128 + r / 64 % 64), UInt8.ofNat (128 + r % 64)]) ∨
    (65536 ≤ r ∧ enc r = [UInt8.ofNat (240 + r / 262144), UInt8.ofNat (128 + r / 4096 % 64), UInt8.ofNat (128 + r / 64 % 64), UInt8.ofNat (128 + r % 64)]) := by
  rw [enc_is_rune r h]
  unfold Sc at h
  unfold encodeRune
  by_cases h1 : r < 128
  · refine .inl ⟨h1, ?_⟩
    rw [encodeRuneZ_one (by omega) (by omega)]
    simp
  by_cases h2 : r < 2048
  · refine .inr (.inl ⟨by omega, h2, ?_⟩)
    rw [encodeRuneZ_two (by omega) (by omega)]
    simp only [List.map_cons, List.map_nil, List.cons.injEq, and_true]
    exact ⟨by rw [show (192 + (r : Int) / 64).toNat = 192 + r / 64 by omega], by rw [show (128 + (r : Int) % 64).toNat = 128 + r % 64 by omega]⟩
  by_cases h3 : r < 65536
  · refine .inr (.inr (.inl ⟨by omega, h3, ?_⟩))
    rw [encodeRuneZ_three (by omega)]
    simp only [List.map_cons, List.map_nil, List.cons.injEq, and_true]
    exact ⟨by rw [show (224 + (r : Int) / 4096).toNat = 224 + r / 4096 by omega], by rw [show (128 + (r : Int) / 64 % 64).toNat = 128 + r / 64 % 64 by omega], by rw [show (128 + (r : Int) % 64).toNat = 128 + r % 64 by omega]⟩
  · refine .inr (.inr (.inr ⟨by omega, ?_⟩))
    rw [encodeRuneZ_four (by omega) (by omega)]
    simp only [List.map_cons, List.map_nil, List.cons.injEq, and_true]
    exact ⟨by rw [show (240 + (r : Int) / 262144).toNat = 240 + r / 262144 by omega], by rw [show (128 + (r : Int) / 4096 % 64).toNat = 128 + r / 4096 % 64 by omega], by rw [show (128 + (r : Int) / 64 % 64).toNat = 128 + r / 64 % 64 by omega], by rw [show (128 + (r : Int) % 64).toNat = 128 + r % 64 by omega]⟩
theorem enc_pos (r : Nat) (h : Sc r) : 1 ≤ (enc r).length := by
  rcases enc_forms r h with ⟨_, e⟩ | ⟨_, _, e⟩ | ⟨_, _, e⟩ | ⟨_, e⟩ <;> rw [e] <;> simp
theorem of_nat_u8 (n : Nat) (h : n < 256) : (UInt8.ofNat n).toNat = n := by simp; omega
theorem dec_one (n b0 b1 b2 b3 : Nat) (r : Nat) (hr : r < 128) (h0 : b0 = r) : decodeN n b0 b1 b2 b3 = (r, 1) := by
  unfold decodeN
  rw [if_pos (by omega), h0]
theorem dec_two (n b0 b1 b2 b3 : Nat) (r : Nat) (hn : 2 ≤ n) (h1 : 128 ≤ r) (h2 : r < 2048) (h0 : b0 = 192 + r / 64) (h3 : b1 = 128 + r % 64) : decodeN n b0 b1 b2 b3 = (r, 2) := by
  unfold decodeN
  rw [if_neg (by omega), if_pos (by omega), if_pos (by omega)]
  congr 1
  omega
theorem dec_three (n b0 b1 b2 b3 : Nat) (r : Nat) (hn : 3 ≤ n) (h1 : 2048 ≤ r) (h2 : r < 65536) (hs : r < 55296 ∨ 57343 < r) (h0 : b0 = 224 + r / 4096) (h3 : b1 = 128 + r / 64 % 64) (h4 : b2 = 128 + r % 64) : decodeN n b0 b1 b2 b3 = (r, 3) := by
  have e : b0 % 16 * 4096 + b1 % 64 * 64 + b2 % 64 = r := by omega
  unfold decodeN
  rw [e, if_neg (by omega), if_neg (by omega), if_pos (by omega), if_pos (by omega)]
theorem dec_four (n b0 b1 b2 b3 : Nat) (r : Nat) (hn : 4 ≤ n) (h1 : 65536 ≤ r) (h2 : r ≤ 1114111) (h0 : b0 = 240 + r / 262144) (h3 : b1 = 128 + r / 4096 % 64) (h4 : b2 = 128 + r / 64 % 64) (h5 : b3 = 128 + r % 64) : decodeN n b0 b1 b2 b3 = (r, 4) := by
  have e : b0 % 8 * 262144 + b1 % 64 * 4096 + b2 % 64 * 64 + b3 % 64 = r := by omega
  unfold decodeN
  rw [e, if_neg (by omega), if_neg (by omega), if_neg (by omega), if_pos (by omega), if_pos (by omega)]
theorem get_of_drop (s : ByteArray) (k j : Nat) {l : List UInt8} (h : (bl s).drop k = l) : (s.get! (k + j)).toNat = (l.getD j 0).toNat := by
  rw [← getD_get!', ← h]
  simp [List.getD_eq_getElem?_getD, bl]
/-- A rune's bytes are read as the rune. -/
theorem decode_enc (s : ByteArray) (k r : Nat) (t : List UInt8) (h : (bl s).drop k = enc r ++ t) (hr : Sc r) : Utf8.decode s k = (r, (enc r).length) := by
  have hl : s.size - k = (enc r).length + t.length := by
    have := congrArg List.length h
    rw [List.length_drop, bl_length, List.length_append] at this
    exact this
  have g0 := get_of_drop s k 0 h
  have g1 := get_of_drop s k 1 h
  have g2 := get_of_drop s k 2 h
  have g3 := get_of_drop s k 3 h
  rw [Nat.add_zero] at g0
  rw [decode_at]
  clear h
  unfold Sc at hr
  rcases enc_forms r hr with ⟨h1, e⟩ | ⟨h1, h2, e⟩ | ⟨h1, h2, e⟩ | ⟨h1, e⟩
  · rw [e] at g0 ⊢
    refine dec_one _ _ _ _ _ r h1 ?_
    rw [g0]
    simp only [List.cons_append, List.getD_cons_zero]
    exact of_nat_u8 _ (by omega)
  · rw [e] at g0 g1 hl ⊢
    refine dec_two _ _ _ _ _ r (by rw [hl]; simp) h1 h2 ?_ ?_
    · rw [g0]
      simp only [List.cons_append, List.getD_cons_zero]
      exact of_nat_u8 _ (by omega)
    · rw [g1]
      simp only [List.cons_append, List.getD_cons_succ, List.getD_cons_zero]
      exact of_nat_u8 _ (by omega)
  · rw [e] at g0 g1 g2 hl ⊢
    refine dec_three _ _ _ _ _ r (by rw [hl]; simp) h1 h2 (by omega) ?_ ?_ ?_
    · rw [g0]
      simp only [List.cons_append, List.getD_cons_zero]
      exact of_nat_u8 _ (by omega)
    · rw [g1]
      simp only [List.cons_append, List.getD_cons_succ, List.getD_cons_zero]
      exact of_nat_u8 _ (by omega)
    · rw [g2]
      simp only [List.cons_append, List.getD_cons_succ, List.getD_cons_zero]
      exact of_nat_u8 _ (by omega)
  · rw [e] at g0 g1 g2 g3 hl ⊢
    refine dec_four _ _ _ _ _ r (by rw [hl]; simp) h1 (by omega) ?_ ?_ ?_ ?_
    · rw [g0]
      simp only [List.cons_append, List.getD_cons_zero]
      exact of_nat_u8 _ (by omega)
    · rw [g1]
      simp only [List.cons_append, List.getD_cons_succ, List.getD_cons_zero]
      exact of_nat_u8 _ (by omega)
    · rw [g2]
      simp only [List.cons_append, List.getD_cons_succ, List.getD_cons_zero]
      exact of_nat_u8 _ (by omega)
    · rw [g3]
      simp only [List.cons_append, List.getD_cons_succ, List.getD_cons_zero]
      exact of_nat_u8 _ (by omega)

/-- Runes encoded one behind the other. -/
def encs (R : List Nat) : List UInt8 := R.flatMap enc
theorem encs_nil : encs [] = [] := rfl
theorem encs_cons (r : Nat) (R : List Nat) : encs (r :: R) = enc r ++ encs R := rfl
theorem encs_append (R R' : List Nat) : encs (R ++ R') = encs R ++ encs R' := by unfold encs; rw [List.flatMap_append]
theorem prs_enc (s : ByteArray) : ∀ (R : List Nat) (k : Nat), (∀ r ∈ R, Sc r) → (bl s).drop k = encs R → prs s k = R.map fun r => (r, (enc r).length)
  | [], k, _, h => by
    refine prs_end s k ?_
    have := congrArg List.length h
    rw [List.length_drop, bl_length] at this
    simp [encs] at this
    omega
  | r :: R, k, hR, h => by
    rw [encs_cons] at h
    have hs := hR r (.head _)
    have hp := enc_pos r hs
    have hD := decode_enc s k r _ h hs
    have hk : k < s.size := by
      have := congrArg List.length h
      rw [List.length_drop, bl_length, List.length_append] at this
      omega
    rw [prs_cons s k hk hD hp, List.map_cons, prs_enc s R (k + (enc r).length) (fun x hx => hR x (.tail _ hx)) ?_]
    rw [← List.drop_drop, h, List.drop_left]
theorem rest_enc (s : ByteArray) (R : List Nat) (hR : ∀ r ∈ R, Sc r) (h : bl s = encs R) : rest s 0 = R := by
  rw [rest_prs, prs_enc s R 0 hR (by rw [List.drop_zero]; exact h), List.map_map]
  exact List.map_id R
theorem badD_enc (r : Nat) (hs : Sc r) : badD r (enc r).length = false := by
  unfold badD
  by_cases h : r = 65533
  · rcases enc_forms r hs with ⟨_, e⟩ | ⟨_, _, e⟩ | ⟨_, _, e⟩ | ⟨_, e⟩
    · omega
    · omega
    · rw [e]; simp
    · omega
  · simp [h]
theorem valid_enc (s : ByteArray) (R : List Nat) (hR : ∀ r ∈ R, Sc r) (h : bl s = encs R) : allRunes s = true := by
  unfold allRunes
  rw [prs_enc s R 0 hR (by rw [List.drop_zero]; exact h), List.all_eq_true]
  intro p hp
  obtain ⟨r, hr, rfl⟩ := List.mem_map.1 hp
  simp only
  rw [badD_enc r (hR r hr)]
  rfl
theorem enc_valid (s : ByteArray) : ∀ (m k : Nat), s.size - k ≤ m → ((prs s k).all fun p => !badD p.1 p.2) = true → (bl s).drop k = encs (rest s k)
  | 0, k, h, _ => by
    rw [List.drop_of_length_le (by rw [bl_length]; omega), rest_end s k (by omega)]
    rfl
  | m + 1, k, h, hv => by
    by_cases hk : k < s.size
    · obtain ⟨r, d, hD, hd, _⟩ := decode_some s k hk
      rw [prs_cons s k hk hD hd, List.all_cons, Bool.and_eq_true] at hv
      rw [rest_cons s k hk hD hd, encs_cons, ← enc_valid s m (k + d) (by omega) hv.2]
      have hb : ¬ (r = 65533 ∧ d < 2) := by
        intro hb
        have := hv.1
        simp [badD, hb] at this
      rw [enc_decode s k hk hD hb, ← List.drop_drop, List.take_append_drop]
    · rw [List.drop_of_length_le (by rw [bl_length]; omega), rest_end s k (by omega)]
      rfl
/-- A text of runes is its runes' bytes. -/
theorem bl_valid (s : ByteArray) (h : allRunes s = true) : bl s = encs (rest s 0) := by
  have := enc_valid s s.size 0 (by omega) h
  rwa [List.drop_zero] at this
end Go.Proofs.YtimmfcbpdnlfjaaDoor
