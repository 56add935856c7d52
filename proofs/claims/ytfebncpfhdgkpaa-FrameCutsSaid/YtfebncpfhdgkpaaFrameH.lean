/- Plain law of records cut off; no program is named here. -/
import Derived.Test.YtfebncpfhdgkpaaFrameA
namespace Go.Proofs.Ytfebncpfhdgkpaa

theorem rnumF_high : ∀ (l : List UInt8) (i n : Nat), (∀ b ∈ l, 128 ≤ b.toNat) → (rnumF l i n).2.2 ≠ 0
  | [], i, n, _ => by simp [rnumF]
  | b :: r, i, n, h => by
    rw [rnumF_cons]
    split
    · simp
    · rw [if_neg (by have := h b (List.mem_cons_self ..); omega)]
      exact rnumF_high r _ _ fun x hx => h x (List.mem_cons_of_mem _ hx)
theorem hi_high : ∀ (k n : Nat), n < 128 ^ k → ∀ b ∈ hi n, 128 ≤ b.toNat
  | 0, n, h, b, hb => by have : n = 0 := by simpa using h
                         rw [this, hi_zero] at hb; cases hb
  | k + 1, n, h, b, hb => by
    by_cases h0 : n = 0
    · rw [h0, hi_zero] at hb; cases hb
    · rw [hi_pos n h0] at hb
      rcases List.mem_append.1 hb with hb | hb
      · exact hi_high k (n / 128) (by rw [Nat.div_lt_iff_lt_mul (by decide)]; rw [Nat.pow_succ] at h; exact h) b hb
      · rw [List.mem_singleton] at hb
        rw [hb, UInt8.toNat_ofNat']
        omega
theorem fr1_cut (r : List UInt8) (k : Nat) (hk : k < (wtext r).length) (hr : r.length ≤ 1048576) : (fr1 ((wtext r).take k)).2.2 ≠ 0 := by
  unfold wtext at hk ⊢
  have hwp : (wput r.length).length = (hi (r.length / 128)).length + 1 := by unfold wput; simp
  rcases Nat.lt_or_ge k (wput r.length).length with h | h
  · have e : (wput r.length ++ r).take k = (hi (r.length / 128)).take k := by
      rw [List.take_append_of_le_length (by omega)]
      unfold wput
      rw [List.take_append_of_le_length (by omega)]
    rw [e]
    have h1 : (rNum ((hi (r.length / 128)).take k) 0).2.2 ≠ 0 := rnumF_high _ 0 0 fun b hb => hi_high 9 _ (by omega) b (List.mem_of_mem_take hb)
    unfold fr1 rText
    rw [if_pos h1]
    exact h1
  · have e : (wput r.length ++ r).take k = wput r.length ++ r.take (k - (wput r.length).length) := by rw [List.take_append, List.take_of_length_le h]
    rw [e]
    unfold fr1 rText
    rw [rNum_wput _ _ (by omega)]
    simp only [ne_eq, not_true_eq_false, if_false]
    rw [if_neg (by omega), if_pos (by simp at hk ⊢; omega)]
    decide
theorem fr1_put (r t : List UInt8) (hr : r.length ≤ 1048576) : fr1 (wtext r ++ t) = (r, (wtext r).length, 0) := by
  unfold fr1 wtext
  rw [List.append_assoc, rText_put r t 1048576 (by omega) (by omega), List.length_append]
theorem frA_put (r t : List UInt8) (hr : r.length ≤ 1048576) : frA (wtext r ++ t) = (r :: (frA t).1, (wtext r).length + (frA t).2) := by
  have h0 : wtext r ++ t ≠ [] := by
    intro h
    have h1 := congrArg List.length h
    have h2 := wput_pos r.length
    simp only [wtext, List.length_append, List.length_nil] at h1
    omega
  rw [frA_step _ h0 (by rw [fr1_put r t hr]), fr1_put r t hr]
  simp
def bsA (rs : List (List UInt8)) : List UInt8 := rs.flatMap wtext
theorem frA_bs : ∀ (rs : List (List UInt8)) (t : List UInt8), (∀ r ∈ rs, r.length ≤ 1048576) → frA (bsA rs ++ t) = (rs ++ (frA t).1, (bsA rs).length + (frA t).2)
  | [], t, _ => by simp [bsA]
  | r :: rs, t, h => by
    have e : bsA (r :: rs) = wtext r ++ bsA rs := by simp [bsA]
    rw [e, List.append_assoc, frA_put r _ (h r (List.mem_cons_self ..)), frA_bs rs t fun x hx => h x (List.mem_cons_of_mem _ hx)]
    simp [Nat.add_assoc]
theorem bsA_snoc (rs : List (List UInt8)) (i : Nat) (hi : i < rs.length) : bsA (rs.take (i + 1)) = bsA (rs.take i) ++ wtext rs[i] := by
  unfold bsA
  rw [List.take_succ_eq_append_getElem hi, List.flatMap_append]
  simp
theorem frA_nil : frA [] = ([], 0) := frA_stop _ (.inl rfl)

/-- How many of the first i records are there wholly, within the first c bytes. -/
def mC (rs : List (List UInt8)) (c : Nat) : Nat → Nat
  | 0 => 0
  | i + 1 => if (bsA (rs.take (i + 1))).length ≤ c then i + 1 else mC rs c i
theorem mC_spec (rs : List (List UInt8)) (c : Nat) : ∀ i, i ≤ rs.length → mC rs c i ≤ i ∧ (bsA (rs.take (mC rs c i))).length ≤ c ∧ (mC rs c i < i → c < (bsA (rs.take (mC rs c i + 1))).length)
  | 0, _ => by simp [mC, bsA]
  | i + 1, h => by
    unfold mC
    split
    · rename_i h1
      exact ⟨Nat.le_refl _, h1, fun h => absurd h (by omega)⟩
    · rename_i h1
      obtain ⟨h2, h3, h4⟩ := mC_spec rs c i (by omega)
      refine ⟨by omega, h3, fun _ => ?_⟩
      by_cases e : mC rs c i = i
      · rw [e]; omega
      · exact h4 (by omega)
theorem bsA_le (rs : List (List UInt8)) (i : Nat) : (bsA (rs.take i)).length ≤ (bsA rs).length := by
  have h : bsA rs = bsA (rs.take i) ++ bsA (rs.drop i) := by
    unfold bsA
    rw [← List.flatMap_append, List.take_append_drop]
  rw [h, List.length_append]
  omega
/-- Records cut off behind c bytes. -/
theorem frA_cut (rs : List (List UInt8)) (c : Nat) (h : ∀ r ∈ rs, r.length ≤ 1048576) : frA ((bsA rs).take c) = (rs.take (mC rs c rs.length), (bsA (rs.take (mC rs c rs.length))).length) ∧ (bsA rs).take c = bsA (rs.take (mC rs c rs.length)) ++ ((bsA rs).take c).drop (bsA (rs.take (mC rs c rs.length))).length := by
  obtain ⟨h1, h2, h3⟩ := mC_spec rs c rs.length (Nat.le_refl _)
  generalize mC rs c rs.length = m at *
  have hx : bsA rs = bsA (rs.take m) ++ bsA (rs.drop m) := by
    unfold bsA
    rw [← List.flatMap_append, List.take_append_drop]
  have ht : (bsA rs).take c = bsA (rs.take m) ++ (bsA (rs.drop m)).take (c - (bsA (rs.take m)).length) := by
    conv => lhs; rw [hx]
    rw [List.take_append, List.take_of_length_le h2]
  refine ⟨?_, by rw [ht]; simp⟩
  rw [ht, frA_bs _ _ fun r hr => h r (List.mem_of_mem_take hr)]
  by_cases e : m < rs.length
  · have h4 := h3 e
    rw [bsA_snoc rs m e, List.length_append] at h4
    have hd : bsA (rs.drop m) = wtext rs[m] ++ bsA (rs.drop (m + 1)) := by
      rw [List.drop_eq_getElem_cons e]
      show List.flatMap wtext (rs[m] :: rs.drop (m + 1)) = _
      rw [List.flatMap_cons]
      rfl
    rw [hd, List.take_append_of_le_length (by omega)]
    rw [frA_stop _ (.inr (fr1_cut rs[m] _ (by omega) (h _ (List.getElem_mem e))))]
    simp
  · rw [List.drop_of_length_le (by omega)]
    simp [bsA, frA_nil]
end Go.Proofs.Ytfebncpfhdgkpaa
