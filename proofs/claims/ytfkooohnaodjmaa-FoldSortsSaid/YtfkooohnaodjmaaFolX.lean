/- Plain: a row sorted and then made compact has the same elements, each once, in order. -/
import Derived.Test.YtfkooohnaodjmaaFolG
import Derived.Lib.SlicesCompact
namespace Go.Proofs.Ytfkooohnaodjmaa
open Go.RowKit Go.Sort

section
variable {α : Type} {c : α → α → Int}
theorem up_ext (h : Cmp c) (hz : ∀ a b, c a b = 0 → a = b) : ∀ a b : List α, Up c a → Up c b → (∀ x, x ∈ a ↔ x ∈ b) → a = b
  | [], [], _, _, _ => rfl
  | [], y :: b, _, _, hm => absurd ((hm y).2 (List.mem_cons_self ..)) (by simp)
  | x :: a, [], _, _, hm => absurd ((hm x).1 (List.mem_cons_self ..)) (by simp)
  | x :: a, y :: b, ha, hb, hm => by
    obtain ⟨ha1, ha2⟩ := List.pairwise_cons.1 ha
    obtain ⟨hb1, hb2⟩ := List.pairwise_cons.1 hb
    have hxy : x = y := by
      rcases List.mem_cons.1 ((hm x).1 (List.mem_cons_self ..)) with e | e
      · exact e
      rcases List.mem_cons.1 ((hm y).2 (List.mem_cons_self ..)) with e2 | e2
      · exact e2.symm
      have h1 := hb1 x e
      have h2 := ha1 y e2
      have := h.anti x y
      omega
    subst hxy
    have := up_ext h hz a b ha2 hb2 (fun z => by
      constructor
      · intro hza
        rcases List.mem_cons.1 ((hm z).1 (List.mem_cons_of_mem _ hza)) with e | e
        · have h1 := ha1 z hza
          rw [e, h.self] at h1
          omega
        · exact e
      · intro hzb
        rcases List.mem_cons.1 ((hm z).2 (List.mem_cons_of_mem _ hzb)) with e | e
        · have h1 := hb1 z hzb
          rw [e, h.self] at h1
          omega
        · exact e)
    rw [this]
theorem compact_up [Inhabited α] [DecidableEq α] (h : Cmp c) (hz : ∀ a b, c a b = 0 → a = b) (zs : List α) (hs : zs.Pairwise fun a b => c a b ≤ 0) :
    ∀ m, m ≤ zs.length → Up c (Lib.compactUpTo zs.toArray m) ∧ ∀ x, x ∈ Lib.compactUpTo zs.toArray m ↔ ∃ j, j < m ∧ zs.toArray[j]! = x
  | 0, _ => ⟨by unfold Lib.compactUpTo; exact List.Pairwise.nil, fun x => by unfold Lib.compactUpTo; simp⟩
  | m + 1, hm => by
    obtain ⟨i1, i2⟩ := compact_up h hz zs hs m (by omega)
    have hg : ∀ j (hj : j < zs.length), zs.toArray[j]! = zs[j] := fun j hj => by rw [getElem!_pos zs.toArray j (by simpa using hj)]; simp
    have hle : ∀ j k, j ≤ k → k < zs.length → c zs.toArray[j]! zs.toArray[k]! ≤ 0 := by
      intro j k hjk hk
      rcases Nat.lt_or_eq_of_le hjk with h1 | h1
      · rw [hg j (by omega), hg k hk]
        exact List.pairwise_iff_getElem.1 hs j k (by omega) hk h1
      · rw [h1, h.self]; exact Int.le_refl _
    rw [Lib.compactUpTo_succ]
    by_cases hk : Lib.keeps zs.toArray m = true
    · rw [if_pos hk]
      refine ⟨List.pairwise_append.2 ⟨i1, List.pairwise_singleton _ _, fun y hy z hz' => ?_⟩, fun x => ?_⟩
      · rw [List.mem_singleton.1 hz']
        obtain ⟨j, hj, rfl⟩ := (i2 y).1 hy
        have h1 := hle j (m - 1) (by omega) (by omega)
        have h2 := hle (m - 1) m (by omega) (by omega)
        have h3 : c zs.toArray[m - 1]! zs.toArray[m]! ≠ 0 := fun e => by
          unfold Lib.keeps at hk
          rcases of_decide_eq_true hk with e0 | e0
          · omega
          · exact e0 (hz _ _ e).symm
        exact h.le_lt h1 (by omega)
      · rw [List.mem_append, i2 x, List.mem_singleton]
        constructor
        · rintro (⟨j, hj, e⟩ | e)
          · exact ⟨j, by omega, e⟩
          · exact ⟨m, by omega, e.symm⟩
        · rintro ⟨j, hj, e⟩
          rcases Nat.lt_or_eq_of_le (Nat.le_of_lt_succ hj) with h1 | h1
          · exact .inl ⟨j, h1, e⟩
          · exact .inr (by rw [← e, h1])
    · rw [if_neg hk, List.append_nil]
      refine ⟨i1, fun x => ?_⟩
      rw [i2 x]
      constructor
      · rintro ⟨j, hj, e⟩
        exact ⟨j, by omega, e⟩
      · rintro ⟨j, hj, e⟩
        rcases Nat.lt_or_eq_of_le (Nat.le_of_lt_succ hj) with h1 | h1
        · exact ⟨j, h1, e⟩
        · have hk2 : ¬ (m = 0 ∨ zs.toArray[m]! ≠ zs.toArray[m - 1]!) := fun e0 => hk (by unfold Lib.keeps; exact decide_eq_true e0)
          have h5 : zs.toArray[m]! = zs.toArray[m - 1]! := Decidable.not_not.1 fun e0 => hk2 (.inr e0)
          have h6 : m ≠ 0 := fun e0 => hk2 (.inl e0)
          exact ⟨m - 1, by omega, by rw [← h5, ← e, h1]⟩
end
theorem sortN_up (l : List ByteArray) : ∀ s, Up natC s → Up natC (l.foldl (fun s x => putR natC x false s) s) := by
  induction l with
  | nil => intro s h; exact h
  | cons x l ih => intro s h; exact ih _ (putR_up nat_C (fun a b => (natC_zero a b).1) x s h)
theorem sortN_in (l : List ByteArray) : ∀ s y, y ∈ l.foldl (fun s x => putR natC x false s) s ↔ y ∈ s ∨ y ∈ l := by
  induction l with
  | nil => intro s y; simp
  | cons x l ih =>
    intro s y
    rw [List.foldl_cons, ih]
    constructor
    · rintro (h | h)
      · rcases putR_mem (fun a b => (natC_zero a b).1) x y false s h with e | e
        · exact .inr (by rw [e]; exact List.mem_cons_self ..)
        · exact .inl e
      · exact .inr (List.mem_cons_of_mem _ h)
    · rintro (h | h)
      · rcases putR_old nat_C (fun a b => (natC_zero a b).1) x y false s h with e | e
        · exact .inl e
        · rw [e]; exact .inl (putR_new x s)
      · rcases List.mem_cons.1 h with e | e
        · rw [e]; exact .inl (putR_new x s)
        · exact .inr e
theorem mk_bl (s : ByteArray) : (⟨(bl s).toArray⟩ : ByteArray) = s := rfl
/-- A row of texts sorted, then made compact: as the reference says. -/
theorem compact_sortN (l S : List ByteArray) (hp : S.Perm l) (hs : S.Pairwise fun a b => natC a b ≤ 0) : Lib.compact (S.map bl) = (sortN l).map bl := by
  have hC : Cmp (fun x y : List UInt8 => natC ⟨x.toArray⟩ ⟨y.toArray⟩) := nat_C.by_ (fun x : List UInt8 => ByteArray.mk x.toArray)
  have hz : ∀ x y : List UInt8, natC ⟨x.toArray⟩ ⟨y.toArray⟩ = 0 → x = y := fun x y h => by
    have := (natC_zero _ _).1 h
    injection this with this
    exact List.toArray_inj this
  have h1 := compact_up hC hz (S.map bl) (List.pairwise_map.2 (hs.imp fun {a b} h => h)) (S.map bl).length (Nat.le_refl _)
  refine up_ext hC hz _ _ h1.1 ?_ fun x => ?_
  · exact List.pairwise_map.2 ((sortN_up l [] List.Pairwise.nil).imp fun {a b} h => h)
  · unfold Lib.compact
    rw [h1.2 x]
    constructor
    · rintro ⟨j, hj, e⟩
      have hjl : j < S.length := by rwa [List.length_map] at hj
      rw [getElem!_pos (S.map bl).toArray j (by simpa using hjl)] at e
      simp only [List.getElem_toArray, List.getElem_map] at e
      rw [← e]
      exact List.mem_map.2 ⟨_, (sortN_in l [] _).2 (.inr (hp.mem_iff.1 (List.getElem_mem hjl))), rfl⟩
    · intro hx
      obtain ⟨s, h2, rfl⟩ := List.mem_map.1 hx
      rcases (sortN_in l [] s).1 h2 with h3 | h3
      · cases h3
      · obtain ⟨j, hj, e⟩ := List.getElem_of_mem (hp.mem_iff.2 h3)
        refine ⟨j, by rwa [List.length_map], ?_⟩
        rw [getElem!_pos (S.map bl).toArray j (by simpa using hj)]
        simp only [List.getElem_toArray, List.getElem_map]
        rw [e]
end Go.Proofs.Ytfkooohnaodjmaa
