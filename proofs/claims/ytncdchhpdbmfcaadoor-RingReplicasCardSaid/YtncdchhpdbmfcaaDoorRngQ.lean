/- Plain law: with a node more each range loses at most one of its nodes. -/
import Derived.Test.YtncdchhpdbmfcaaDoorRngP
namespace Go.Proofs.YtncdchhpdbmfcaaDoor
open Go.RowKit Go.Sort
def nd (p : Pl) : Int := (p.2 : Int)
def ded (c : Int) (L : List Int) : List Int := L.foldl (stepR c) []
/-- The places clockwise from a place on. -/
def clockL (P : List Pl) (x : Nat) : List Pl := P.filter (fun p => !decide (p.1 < x)) ++ P.filter (fun p => decide (p.1 < x))
theorem tw_filter (x : Nat) : ∀ P : List Pl, UpU P → P.takeWhile (fun p => decide (p.1 < x)) = P.filter (fun p => decide (p.1 < x)) ∧ P.dropWhile (fun p => decide (p.1 < x)) = P.filter (fun p => !decide (p.1 < x))
  | [], _ => ⟨rfl, rfl⟩
  | p :: P, h => by
    have h1 := List.pairwise_cons.1 h
    have h2 := tw_filter x P h1.2
    rw [List.takeWhile_cons, List.dropWhile_cons, List.filter_cons, List.filter_cons]
    by_cases hp : p.1 < x
    · rw [decide_eq_true hp]
      simp only [if_true, Bool.not_true, Bool.false_eq_true, if_false]
      exact ⟨by rw [h2.1], h2.2⟩
    · rw [decide_eq_false hp]
      simp only [if_true, Bool.not_false, Bool.false_eq_true, if_false]
      refine ⟨?_, ?_⟩
      · symm
        rw [List.filter_eq_nil_iff]
        intro q hq
        have := h1.1 q hq
        simp only [decide_eq_true_eq]
        omega
      · congr 1
        symm
        rw [List.filter_eq_self]
        intro q hq
        have := h1.1 q hq
        simp only [Bool.not_eq_true', decide_eq_false_iff_not]
        omega
theorem rot_eq (A B : List Pl) : (List.range (A ++ B).length).map (nodeAt (A ++ B) A.length) = (B ++ A).map nd := by
  apply List.ext_getElem
  · simp only [List.length_map, List.length_range, List.length_append]; omega
  · intro k h1 h2
    have hl : (A ++ B).length = A.length + B.length := List.length_append
    simp only [List.length_map, List.length_range] at h1
    simp only [List.getElem_map, List.getElem_range]
    unfold nodeAt
    rcases Nat.lt_or_ge k B.length with hk | hk
    · rw [Nat.mod_eq_of_lt (by omega), List.getElem?_append_right (by omega), show A.length + k - A.length = k by omega, List.getElem?_eq_getElem hk, List.getElem_append_left hk]
      rfl
    · rw [show A.length + k = (k - B.length) + (A ++ B).length by omega, Nat.add_mod_right, Nat.mod_eq_of_lt (by omega), List.getElem?_append_left (by omega), List.getElem?_eq_getElem (by omega), List.getElem_append_right hk]
      rfl
theorem replR_ded (P : List Pl) (x : Nat) (c : Int) (h : UpU P) : replR P (plcU P x) c P.length = ded c ((clockL P x).map nd) := by
  obtain ⟨h1, h2⟩ := tw_filter x P h
  have h3 := List.takeWhile_append_dropWhile (p := fun p : Pl => decide (p.1 < x)) (l := P)
  unfold replR ded clockL plcU
  rw [← h2, ← h1]
  have h4 := rot_eq (P.takeWhile fun p => decide (p.1 < x)) (P.dropWhile fun p => decide (p.1 < x))
  rw [h3] at h4
  rw [h4]
theorem clock_filter (P : List Pl) (x : Nat) (q : Pl → Bool) : clockL (P.filter q) x = (clockL P x).filter q := by
  unfold clockL
  rw [List.filter_append, List.filter_filter, List.filter_filter, List.filter_filter, List.filter_filter]
  congr 1 <;> (apply List.filter_congr; intro p _; exact Bool.and_comm _ _)
theorem stepR_nodup (c : Int) (out : List Int) (n : Int) (h : out.Nodup) : (stepR c out n).Nodup := by
  unfold stepR
  split
  · rename_i h1
    rw [List.nodup_append]
    refine ⟨h, by simp, ?_⟩
    intro a ha b hb hab
    rw [List.mem_singleton.1 hb] at hab
    subst hab
    have h2 := (any_mem out a).2 ha
    rw [h1.2] at h2
    cases h2
  · exact h
theorem ded_inv (c N : Int) : ∀ (L out' out : List Int), out.Nodup → out'.Nodup → (∀ y ∈ out', y ∈ out ∨ y = N) → ((out'.length : Int) < c → ∀ y ∈ out, y ∈ out') →
    ((L.filter fun n => n != N).foldl (stepR c) out).Nodup ∧ (L.foldl (stepR c) out').Nodup ∧ ∀ z ∈ L.foldl (stepR c) out', z ∈ (L.filter fun n => n != N).foldl (stepR c) out ∨ z = N
  | [], out', out, h1, h2, h3, _ => ⟨h1, h2, h3⟩
  | n :: L, out', out, h1, h2, h3, h4 => by
    have hl := stepR_len c out' n
    rw [List.filter_cons, List.foldl_cons]
    by_cases hn : n = N
    · have hb : (n != N) = false := by simp [hn]
      rw [hb]
      refine ded_inv c N L (stepR c out' n) out h1 (stepR_nodup c out' n h2) (fun y hy => ?_) (fun h y hy => ?_)
      · rcases (stepR_mem _ _ _ _).1 hy with h5 | h5
        · exact h3 y h5
        · exact .inr (h5.1.trans hn)
      · exact (stepR_mem _ _ _ _).2 (.inl (h4 (by omega) y hy))
    · have hb : (n != N) = true := by simp [hn]
      rw [hb, if_pos rfl, List.foldl_cons]
      refine ded_inv c N L (stepR c out' n) (stepR c out n) (stepR_nodup c out n h1) (stepR_nodup c out' n h2) (fun y hy => ?_) (fun h y hy => ?_)
      · rcases (stepR_mem _ _ _ _).1 hy with h5 | ⟨h5, h6⟩
        · rcases h3 y h5 with h7 | h7
          · exact .inl ((stepR_mem _ _ _ _).2 (.inl h7))
          · exact .inr h7
        · have h8 := List.Nodup.length_le_of_subset h1 (h4 h6)
          exact .inl ((stepR_mem _ _ _ _).2 (.inr ⟨h5, by omega⟩))
      · rcases (stepR_mem _ _ _ _).1 hy with h5 | ⟨h5, h6⟩
        · exact (stepR_mem _ _ _ _).2 (.inl (h4 (by omega) y h5))
        · exact (stepR_mem _ _ _ _).2 (.inr ⟨h5, by omega⟩)
/-- Those of x that are not in y. -/
def goneL (x y : List Int) : List Int := x.filter fun z => !(y.any fun q => z == q)
theorem gone_le (x y : List Int) (N : Int) (hx : x.Nodup) (hy : y.Nodup) (hs : ∀ z ∈ y, z ∈ x ∨ z = N) (hl : x.length = y.length) : (goneL x y).length ≤ 1 ∧ ((goneL x y).length = 0 ∨ (y.any fun q => N == q) = true) := by
  have hG : ∀ z, z ∈ goneL x y → z ∈ x ∧ z ∉ y := fun z hz => by
    obtain ⟨h1, h2⟩ := List.mem_filter.1 hz
    refine ⟨h1, fun h3 => ?_⟩
    rw [(any_mem y z).2 h3] at h2
    cases h2
  have h1 : (goneL x y ++ y.erase N).Nodup := by
    rw [List.nodup_append]
    refine ⟨hx.sublist List.filter_sublist, hy.erase N, ?_⟩
    intro a ha b hb hab
    subst hab
    exact (hG a ha).2 (List.mem_of_mem_erase hb)
  have h2 : goneL x y ++ y.erase N ⊆ x := fun z hz => by
    rcases List.mem_append.1 hz with h | h
    · exact (hG z h).1
    · have h3 := (List.Nodup.mem_erase_iff hy).1 h
      rcases hs z h3.2 with h4 | h4
      · exact h4
      · exact absurd h4 h3.1
  have h3 := List.Nodup.length_le_of_subset h1 h2
  rw [List.length_append, List.length_erase] at h3
  by_cases hN : N ∈ y
  · refine ⟨?_, .inr ((any_mem y N).2 hN)⟩
    split at h3 <;> omega
  · rw [if_neg hN] at h3
    exact ⟨by omega, .inl (by omega)⟩
theorem sorted_more (N : Nat) : sortU (plcs (N * 4)) = (sortU (plcs ((N + 1) * 4))).filter fun p => p.2 != N := by
  have hp : ((plcs ((N + 1) * 4)).filter fun p => p.2 != N) = plcs (N * 4) := by
    have h0 : (plcs (N * 4)).filter (fun p => p.2 != N) = plcs (N * 4) := by
      rw [List.filter_eq_self]
      intro p hp
      obtain ⟨k, hk, rfl⟩ := List.mem_map.1 hp
      have h1 := List.mem_range.1 hk
      have h2 : (plc k).2 = k / 4 := rfl
      have h3 : ¬ k / 4 = N := by omega
      rw [h2]
      simp [h3]
    have h1 : ∀ k, N * 4 ≤ k → k < N * 4 + 4 → ((plc k).2 != N) = false := fun k h2 h3 => by
      have h4 : (plc k).2 = k / 4 := rfl
      have h5 : k / 4 = N := by omega
      rw [h4, h5]
      simp
    rw [show (N + 1) * 4 = N * 4 + 1 + 1 + 1 + 1 by omega, plcs_succ, plcs_succ, plcs_succ, plcs_succ]
    simp only [List.filter_append, List.filter_cons, List.filter_nil, h0, h1 _ (by omega : N * 4 ≤ N * 4) (by omega), h1 (N * 4 + 1) (by omega) (by omega), h1 (N * 4 + 1 + 1) (by omega) (by omega), h1 (N * 4 + 1 + 1 + 1) (by omega) (by omega)]
    simp
  refine List.Perm.eq_of_pairwise (le := fun s t => cmpPl s t ≤ 0) (fun a b _ _ h1 h2 => cmpPl_eq a b ?_) (sortU_up _) ((sortU_up _).sublist List.filter_sublist) ?_
  · have := cmp_Pl.anti a b
    omega
  · refine (sortU_perm _).trans ?_
    rw [← hp]
    exact ((sortU_perm _).filter _).symm
theorem repls_stay (S : List ByteArray) (N : Nat) (c i : Int) (h0 : 0 ≤ c) (hc : c ≤ N) (hi : 0 ≤ i) (hi2 : i < S.length) :
    let x := repls S (sortU (plcs (N * 4))) c i
    let y := repls S (sortU (plcs ((N + 1) * 4))) c i
    (x.length : Int) = c ∧ (y.length : Int) = c ∧ (∀ z ∈ y, (x.any fun q => z == q) = true ∨ z = N) ∧ (goneL x y).length ≤ 1 ∧ ((goneL x y).length = 0 ∨ (y.any fun q => (N : Int) == q) = true) := by
  have hx := repls_full S N c i h0 hc hi hi2
  have hy := repls_full S (N + 1) c i h0 (by omega) hi hi2
  intro x y
  have e1 : x = ded c (((clockL (sortU (plcs ((N + 1) * 4))) (hU (rest (S[i.toNat]?.getD ⟨#[]⟩) 0) 0)).map nd).filter fun n => n != (N : Int)) := by
    show repls _ _ _ _ = _
    unfold repls
    rw [if_neg (by omega), replR_ded _ _ _ (sortU_upU _), sorted_more, clock_filter]
    congr 1
    rw [List.filter_map]
    congr 1
    apply List.filter_congr
    intro p _
    show (p.2 != N) = ((p.2 : Int) != (N : Int))
    rw [Bool.eq_iff_iff, bne_iff_ne, bne_iff_ne]
    constructor <;> intro h h2 <;> exact h (by omega)
  have e2 : y = ded c ((clockL (sortU (plcs ((N + 1) * 4))) (hU (rest (S[i.toNat]?.getD ⟨#[]⟩) 0) 0)).map nd) := by
    show repls _ _ _ _ = _
    unfold repls
    rw [if_neg (by omega), replR_ded _ _ _ (sortU_upU _)]
  obtain ⟨n1, n2, n3⟩ := ded_inv c (N : Int) ((clockL (sortU (plcs ((N + 1) * 4))) (hU (rest (S[i.toNat]?.getD ⟨#[]⟩) 0) 0)).map nd) [] [] List.nodup_nil List.nodup_nil (fun y hy => by cases hy) (fun _ y hy => by cases hy)
  change (ded c _).Nodup at n1
  change (ded c _).Nodup at n2
  change ∀ z ∈ ded c _, z ∈ ded c _ ∨ z = (N : Int) at n3
  rw [← e1] at n1 n3
  rw [← e2] at n2 n3
  have hxx : (x.length : Int) = c := hx
  have hyy : (y.length : Int) = c := hy
  obtain ⟨g1, g2⟩ := gone_le x y N n1 n2 n3 (by omega)
  exact ⟨hxx, hyy, fun z hz => (n3 z hz).imp (fun h => (any_mem x z).2 h) id, g1, g2⟩
end Go.Proofs.YtncdchhpdbmfcaaDoor
