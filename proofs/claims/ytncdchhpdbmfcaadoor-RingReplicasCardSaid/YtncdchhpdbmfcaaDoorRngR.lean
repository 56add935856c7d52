/- Plain law: the greedy choice of the reference is the clockwise one. -/
import Derived.Test.YtncdchhpdbmfcaaDoorRngQ
namespace Go.Proofs.YtncdchhpdbmfcaaDoor
open Go.RowKit Go.Sort
/-- How far a place is from another one, clockwise. -/
def farU (x : Nat) (p : Pl) : Nat := (p.1 + 4294967296 - x) % 4294967296
theorem fold_full (c : Int) : ∀ (L out : List Int), c ≤ (out.length : Int) → L.foldl (stepR c) out = out
  | [], _, _ => rfl
  | n :: L, out, h => by
    rw [List.foldl_cons]
    have h1 : stepR c out n = out := by
      unfold stepR
      rw [if_neg (by omega)]
    rw [h1]
    exact fold_full c L out h
theorem fold_in (c : Int) : ∀ (L out : List Int), (∀ n ∈ L, n ∈ out) → L.foldl (stepR c) out = out
  | [], _, _ => rfl
  | n :: L, out, h => by
    rw [List.foldl_cons]
    have h1 : stepR c out n = out := by
      unfold stepR
      rw [if_neg (fun h2 => by
        have h3 := (any_mem out n).2 (h n (List.mem_cons_self ..))
        rw [h2.2] at h3
        cases h3)]
    rw [h1]
    exact fold_in c L out (fun m hm => h m (List.mem_cons_of_mem _ hm))
/-- The first one that is not there yet. -/
theorem fold_first (c : Int) (pre post out : List Int) (n : Int) (h1 : ∀ m ∈ pre, m ∈ out) (h2 : n ∉ out) (h3 : (out.length : Int) < c) :
    (pre ++ n :: post).foldl (stepR c) out = (pre ++ n :: post).foldl (stepR c) (out ++ [n]) := by
  have hs : stepR c out n = out ++ [n] := by
    unfold stepR
    rw [if_pos ⟨h3, by
      cases h : out.any fun y => n == y with
      | false => rfl
      | true => exact absurd ((any_mem out n).1 h) h2⟩]
  have hs2 : stepR c (out ++ [n]) n = out ++ [n] := by
    unfold stepR
    rw [if_neg (fun h => by
      have h4 := (any_mem (out ++ [n]) n).2 (by simp)
      rw [h.2] at h4
      cases h4)]
  rw [List.foldl_append, List.foldl_append, fold_in c pre out h1, fold_in c pre (out ++ [n]) (fun m hm => List.mem_append.2 (.inl (h1 m hm))), List.foldl_cons, List.foldl_cons, hs, hs2]
theorem split_first (q : Pl → Bool) : ∀ L : List Pl, (∃ p ∈ L, q p = true) → ∃ pre p post, L = pre ++ p :: post ∧ (∀ r ∈ pre, q r = false) ∧ q p = true
  | [], h => by obtain ⟨p, hp, _⟩ := h; cases hp
  | a :: L, h => by
    cases ha : q a with
    | true => exact ⟨[], a, L, rfl, (fun r hr => by cases hr), ha⟩
    | false =>
      obtain ⟨pre, p, post, h1, h2, h3⟩ := split_first q L (by
        obtain ⟨p, hp, hq⟩ := h
        rcases List.mem_cons.1 hp with rfl | hp
        · rw [ha] at hq; cases hq
        · exact ⟨p, hp, hq⟩)
      exact ⟨a :: pre, p, post, by rw [h1]; rfl, (fun r hr => by
        rcases List.mem_cons.1 hr with rfl | hr
        · exact ha
        · exact h2 r hr), h3⟩
theorem clock_mem (P : List Pl) (x : Nat) (p : Pl) : p ∈ clockL P x ↔ p ∈ P := by
  unfold clockL
  rw [List.mem_append, List.mem_filter, List.mem_filter]
  constructor
  · rintro (h | h) <;> exact h.1
  · intro h
    by_cases h2 : p.1 < x
    · exact .inr ⟨h, by simp [h2]⟩
    · exact .inl ⟨h, by simp [h2]⟩
theorem clock_up (P : List Pl) (x : Nat) (hP : UpU P) (hx : x < 4294967296) (hb : ∀ p ∈ P, p.1 < 4294967296) : (clockL P x).Pairwise fun a b => farU x a ≤ farU x b := by
  unfold clockL
  rw [List.pairwise_append]
  refine ⟨?_, ?_, ?_⟩
  · refine ((List.Pairwise.and_mem.1 (hP.sublist List.filter_sublist))).imp (fun {a b} h => ?_)
    obtain ⟨h1, h2, h3⟩ := h
    have m1 := List.mem_filter.1 h1
    have m2 := List.mem_filter.1 h2
    have a1 := hb a m1.1
    have a2 := hb b m2.1
    have b1 : ¬ a.1 < x := by simpa using m1.2
    have b2 : ¬ b.1 < x := by simpa using m2.2
    unfold farU
    omega
  · refine ((List.Pairwise.and_mem.1 (hP.sublist List.filter_sublist))).imp (fun {a b} h => ?_)
    obtain ⟨h1, h2, h3⟩ := h
    have m1 := List.mem_filter.1 h1
    have m2 := List.mem_filter.1 h2
    have b1 : a.1 < x := by simpa using m1.2
    have b2 : b.1 < x := by simpa using m2.2
    unfold farU
    omega
  · intro a ha b hbm
    have m1 := List.mem_filter.1 ha
    have m2 := List.mem_filter.1 hbm
    have a1 := hb a m1.1
    have b1 : ¬ a.1 < x := by simpa using m1.2
    have b2 : b.1 < x := by simpa using m2.2
    unfold farU
    omega
def allP : List Pl := plcs 20
set_option maxRecDepth 100000 in
theorem plcs_apart : ∀ a ∈ allP, ∀ b ∈ allP, a.1 = b.1 → a = b := by decide +kernel
theorem plc_lt (k : Nat) : (plc k).1 < 4294967296 := hU_lt _ _
theorem plcs_all (m : Nat) (hm : m ≤ 20) (p : Pl) (h : p ∈ plcs m) : p ∈ allP := by
  obtain ⟨k, hk, rfl⟩ := List.mem_map.1 h
  exact List.mem_map.2 ⟨k, List.mem_range.2 (by have := List.mem_range.1 hk; omega), rfl⟩
/-- The nearest place of a node not there yet: the greedy step. -/
theorem greedy (N x : Nat) (c : Int) (out : List Int) (hN : N ≤ 5) (hx : x < 4294967296) (hc : (out.length : Int) < c) (p : Pl) (hp : p ∈ plcs (N * 4)) (hn : nd p ∉ out) (hmin : ∀ q ∈ plcs (N * 4), nd q ∉ out → farU x p ≤ farU x q) :
    ((clockL (sortU (plcs (N * 4))) x).map nd).foldl (stepR c) out = ((clockL (sortU (plcs (N * 4))) x).map nd).foldl (stepR c) (out ++ [nd p]) := by
  have hmem : ∀ q, q ∈ clockL (sortU (plcs (N * 4))) x ↔ q ∈ plcs (N * 4) := fun q => (clock_mem _ x q).trans (sortU_perm _).mem_iff
  have hup := clock_up (sortU (plcs (N * 4))) x (sortU_upU _) hx (fun q hq => by
    obtain ⟨k, _, rfl⟩ := List.mem_map.1 ((sortU_perm _).mem_iff.1 hq)
    exact plc_lt k)
  obtain ⟨pre, q, post, h1, h2, h3⟩ := split_first (fun q => !decide (nd q ∈ out)) (clockL (sortU (plcs (N * 4))) x) ⟨p, (hmem p).2 hp, by simp [hn]⟩
  have hq : q ∈ plcs (N * 4) := (hmem q).1 (by rw [h1]; simp)
  have hqn : nd q ∉ out := by simpa using h3
  have hpq : farU x q ≤ farU x p := by
    have hpm := (hmem p).2 hp
    rw [h1] at hpm hup
    rcases List.mem_append.1 hpm with h | h
    · have := h2 p h
      simp [hn] at this
    · rcases List.mem_cons.1 h with rfl | h
      · exact Nat.le_refl _
      · exact (List.pairwise_cons.1 (List.pairwise_append.1 hup).2.1).1 p h
  have heq : farU x p = farU x q := Nat.le_antisymm (hmin q hq hqn) hpq
  have hp1 : p.1 < 4294967296 := by
    obtain ⟨k, _, rfl⟩ := List.mem_map.1 hp
    exact plc_lt k
  have hq1 : q.1 < 4294967296 := by
    obtain ⟨k, _, rfl⟩ := List.mem_map.1 hq
    exact plc_lt k
  have h11 : p.1 = q.1 := by
    unfold farU at heq
    omega
  have hpq2 := plcs_apart p (plcs_all _ (by omega) p hp) q (plcs_all _ (by omega) q hq) h11
  subst hpq2
  rw [h1, List.map_append, List.map_cons]
  exact fold_first c _ _ out (nd p) (fun m hm => by
    obtain ⟨r, hr, rfl⟩ := List.mem_map.1 hm
    have := h2 r hr
    simpa using this) hn hc
end Go.Proofs.YtncdchhpdbmfcaaDoor
