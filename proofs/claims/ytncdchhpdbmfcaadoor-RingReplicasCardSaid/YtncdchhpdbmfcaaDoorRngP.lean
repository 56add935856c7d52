/- Plain laws of a ring's replicas: how many there are. -/
import Derived.Test.YtncdchhpdbmfcaaDoorRngD
import Derived.Test.YtncdchhpdbmfcaaDoorRngE
namespace Go.Proofs.YtncdchhpdbmfcaaDoor
open Go.RowKit Go.Sort
theorem stepR_le (c : Int) (out : List Int) (n : Int) (ho : (out.length : Int) ≤ c) : ((stepR c out n).length : Int) ≤ c := by
  unfold stepR
  split
  · rename_i h1
    rw [List.length_append, List.length_singleton]
    have := h1.1
    omega
  · exact ho
theorem replR_le (P : List Pl) (f : Nat) (c : Int) (h : 0 ≤ c) : ∀ m, ((replR P f c m).length : Int) ≤ c
  | 0 => by simpa [replR] using h
  | m + 1 => by rw [replR_succ]; exact stepR_le c _ _ (replR_le P f c h m)
theorem any_mem (out : List Int) (n : Int) : (out.any fun y => n == y) = true ↔ n ∈ out := by
  rw [List.any_eq_true]
  constructor
  · rintro ⟨x, h1, h2⟩
    rw [beq_iff_eq] at h2
    rw [h2]; exact h1
  · intro h
    exact ⟨n, h, by simp⟩
theorem stepR_mem (c : Int) (out : List Int) (n x : Int) : x ∈ stepR c out n ↔ x ∈ out ∨ (x = n ∧ (out.length : Int) < c) := by
  unfold stepR
  split
  · rename_i h1
    rw [List.mem_append, List.mem_singleton]
    constructor
    · rintro (h | h)
      · exact .inl h
      · exact .inr ⟨h, h1.1⟩
    · rintro (h | h)
      · exact .inl h
      · exact .inr h.1
  · rename_i h1
    constructor
    · exact .inl
    · rintro (h | h)
      · exact h
      · rw [h.1, ← any_mem]
        cases h3 : out.any fun y => n == y with
        | true => rfl
        | false => exact absurd ⟨h.2, h3⟩ h1
theorem stepR_len (c : Int) (out : List Int) (n : Int) : out.length ≤ (stepR c out n).length := by
  unfold stepR
  split
  · simp
  · exact Nat.le_refl _
theorem replR_all (P : List Pl) (f : Nat) (c : Int) : ∀ m, ((replR P f c m).length : Int) < c → ∀ k, k < m → nodeAt P f k ∈ replR P f c m
  | 0, _, k, hk => absurd hk (Nat.not_lt_zero k)
  | m + 1, h, k, hk => by
    rw [replR_succ] at h ⊢
    have h1 := stepR_len c (replR P f c m) (nodeAt P f m)
    rcases Nat.lt_or_ge k m with h2 | h2
    · exact (stepR_mem _ _ _ _).2 (.inl (replR_all P f c m (by omega) k h2))
    · obtain rfl : k = m := by omega
      exact (stepR_mem _ _ _ _).2 (.inr ⟨rfl, by omega⟩)
theorem pigeon : ∀ (N : Nat) (out : List Int), (∀ n : Nat, n < N → (n : Int) ∈ out) → N ≤ out.length
  | 0, _, _ => Nat.zero_le _
  | N + 1, out, h => by
    have h1 := h N (Nat.lt_succ_self N)
    have h2 := pigeon N (out.erase (N : Int)) (fun n hn => (List.mem_erase_of_ne (by omega)).2 (h n (by omega)))
    rw [List.length_erase_of_mem h1] at h2
    have h3 := List.length_pos_of_mem h1
    omega
theorem nodeAt_all (P : List Pl) (f N : Nat) (hP : P.Perm (plcs (N * 4))) (hf : f ≤ P.length) (n : Nat) (hn : n < N) : ∃ k, k < P.length ∧ nodeAt P f k = (n : Int) := by
  have h1 : plc (n * 4) ∈ P := hP.mem_iff.2 (List.mem_map.2 ⟨n * 4, List.mem_range.2 (by omega), rfl⟩)
  obtain ⟨j, hj, h2⟩ := List.getElem_of_mem h1
  have h3 : P[j]? = some (plc (n * 4)) := by rw [List.getElem?_eq_getElem hj, h2]
  have h4 : (plc (n * 4)).2 = n := by show n * 4 / 4 = n; omega
  rcases Nat.lt_or_ge j f with h5 | h5
  · refine ⟨j + P.length - f, by omega, ?_⟩
    unfold nodeAt
    rw [show f + (j + P.length - f) = j + P.length by omega, Nat.add_mod_right, Nat.mod_eq_of_lt hj, h3]
    show (((plc (n * 4)).2 : Nat) : Int) = n
    rw [h4]
  · refine ⟨j - f, by omega, ?_⟩
    unfold nodeAt
    rw [show f + (j - f) = j by omega, Nat.mod_eq_of_lt hj, h3]
    show (((plc (n * 4)).2 : Nat) : Int) = n
    rw [h4]
theorem replR_full (P : List Pl) (f N : Nat) (c : Int) (hP : P.Perm (plcs (N * 4))) (hf : f ≤ P.length) (h0 : 0 ≤ c) (hc : c ≤ N) : ((replR P f c P.length).length : Int) = c := by
  have h1 := replR_le P f c h0 P.length
  rcases Int.lt_or_eq_of_le h1 with h2 | h2
  · have h3 := replR_all P f c P.length h2
    have h4 := pigeon N (replR P f c P.length) (fun n hn => by
      obtain ⟨k, hk, h5⟩ := nodeAt_all P f N hP hf n hn
      rw [← h5]; exact h3 k hk)
    omega
  · exact h2
theorem repls_full (S : List ByteArray) (N : Nat) (c i : Int) (h0 : 0 ≤ c) (hc : c ≤ N) (hi : 0 ≤ i) (hi2 : i < S.length) : ((repls S (sortU (plcs (N * 4))) c i).length : Int) = c := by
  unfold repls
  rw [if_neg (by omega)]
  exact replR_full _ _ N c (sortU_perm _) (plcU_le _ _) h0 hc
/-- What a right ring's starts are. -/
theorem right_starts {nodes copies : Int} {K : List ByteArray} (h : RightR nodes copies K) : UpT K := by
  have h1 := h.2.2.2.2.2
  have h3 := h.2.2.2.2.1
  have hs : ∀ j s t, K[j]? = some s → K[j + 1]? = some t → ltT s t = true := fun j s t h4 h5 => by
    have hj : j + 1 < K.length := by
      rcases Nat.lt_or_ge (j + 1) K.length with h | h
      · exact h
      · rw [List.getElem?_eq_none h] at h5; cases h5
    obtain ⟨s', h6, _, h7⟩ := h1 (j + 1) hj
    rw [h6] at h5
    injection h5 with h5
    rw [← h5]
    exact h7 s (by omega) h4
  have htr : ∀ a b d, ltT a b = true → ltT b d = true → ltT a d = true := fun a b d h4 h5 => (ltT_iff _ _).2 (Cmp.lt_le cmp_T ((ltT_iff _ _).1 h4) (Int.le_of_lt ((ltT_iff _ _).1 h5)))
  match K, h3, hs with
  | [], _, _ => exact List.Pairwise.nil
  | [a], _, _ => exact List.pairwise_singleton _ _
  | [a, b], _, hs => 
    have h4 := hs 0 a b rfl rfl
    exact List.pairwise_cons.2 ⟨fun x hx => by rw [List.mem_singleton.1 hx]; exact h4, List.pairwise_singleton _ _⟩
  | [a, b, d], _, hs =>
    have h4 := hs 0 a b rfl rfl
    have h5 := hs 1 b d rfl rfl
    refine List.pairwise_cons.2 ⟨fun x hx => ?_, List.pairwise_cons.2 ⟨fun x hx => by rw [List.mem_singleton.1 hx]; exact h5, List.pairwise_singleton _ _⟩⟩
    simp only [List.mem_cons, List.mem_nil_iff, or_false] at hx
    rcases hx with rfl | rfl
    · exact h4
    · exact htr _ _ _ h4 h5
  | a :: b :: d :: e :: l, h, _ => simp at h; 
theorem right_ne {nodes copies : Int} {K : List ByteArray} (h : RightR nodes copies K) : ∀ s ∈ K, s.toList ≠ [] := fun s hs => by
  obtain ⟨j, hj, h2⟩ := List.getElem_of_mem hs
  obtain ⟨s', h6, h7, _⟩ := h.2.2.2.2.2 j hj
  rw [List.getElem?_eq_getElem hj, h2] at h6
  injection h6 with h6
  rw [← h6] at h7
  intro h8
  unfold keyB at h7
  have h9 : 0 < s.size := by
    rcases Nat.eq_zero_or_pos s.size with h | h
    · rw [h] at h7; simp at h7
    · exact h
  have h10 := size_pos_str s h9
  rw [h10] at h8
  exact h8
end Go.Proofs.YtncdchhpdbmfcaaDoor
